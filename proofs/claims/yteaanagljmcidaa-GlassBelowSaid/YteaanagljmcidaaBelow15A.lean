/- law15: Right, its list owned; a span's number is written over. -/
import Derived.Test.YteaanagljmcidaaPkG
import Derived.Test.YteaanagljmcidaaPkA
namespace Go.Proofs.Yteaanagljmcidaa
open Go.RowKit

attribute [local go_sem ↓] Go.wp_at_zero Go.wp_at_succ

set_option maxRecDepth 100000 in
set_option maxHeartbeats 4000000 in
theorem r9_rightO (w : World) {F : Nat → Prop} {x : Value} (l : List SpanE) (hx : Sl spanC w F x l) (hF : ∀ b, F b → b < w.heap.size) (hl : l.length ≤ 1000) :
    Calls Try.prog 62 #[x] w fun e w' => ∃ v, e = .returned v ∧ Ext w w' ∧ Own spanC 92 w' w.heap.size F v (rightE l) := by
  obtain ⟨A, cap, rfl, -⟩ := hx.form
  have Hx := Lib.hid hx
  clear hx
  go_enter Try.func62, Try.ntmps62
  go_wp2
  go_loopw [3, 8] (fun s3 s8 wr => ∃ i : Nat, i ≤ l.length ∧ s8 = .int .i64 i ∧ Own spanC 92 wr w.heap.size F s3 (rightE (l.take i)) ∧ Ext w wr) (fun _ s8 _ => l.length - (intOf s8).toNat)
  case atStart => exact ⟨0, Nat.zero_le _, rfl, Own.nil _ _ _ _ _, Out.refl _ _⟩
  case round =>
    obtain ⟨wo, rfl⟩ : ∃ x : World, x = wr := ⟨_, rfl⟩
    obtain ⟨i, hi, rfl, hown, hxo⟩ := hrel
    obtain ⟨S3, n3, c3, rfl⟩ := hown.form0
    have HX := Lib.hid hxo
    have Hown := Lib.hid hown
    have Hlt := Lib.hid hown.lt
    have hsz := hxo.size
    clear hxo hown
    by_cases hlt : i < l.length
    · obtain ⟨b1, o1, u1, v1, rfl, -, c0, c1, c2, hu, hv⟩ := (Hx.out.ext HX.out).span i hlt
      obtain ⟨U1, N1, n1, rfl⟩ := hu.form0
      obtain ⟨V1, M1, m1, rfl⟩ := hv.form0
      have hsn : rightE (l.take (i + 1)) = rightE (l.take i) ++ if scheck l[i] = 0 then [l[i]] else [] := by
        unfold rightE
        rw [List.take_succ_eq_append_getElem hlt, List.filter_append]
        congr 1
        by_cases h : scheck l[i] = 0 <;> simp [okSp, h]
      have hrl := rightE_len (l.take i)
      rw [List.length_take] at hrl
      have Hsn := Lib.hid hsn
      have x1 := Ext.alloc1 wo (.cells #[.slice U1 N1 n1, .slice V1 M1 m1, u64V l[i].seq] 92)
      obtain ⟨z0, z1, z2, -⟩ := cells3 (blk_new wo (.cells #[.slice U1 N1 n1, .slice V1 M1 m1, u64V l[i].seq] 92))
      have HZ := Lib.hid (blk_new wo (.cells #[.slice U1 N1 n1, .slice V1 M1 m1, u64V l[i].seq] 92))
      have HC := Lib.hid (r9_check (wo.alloc (.cells #[.slice U1 N1 n1, .slice V1 M1 m1, u64V l[i].seq] 92)) l[i] (hu.ext x1) (hv.ext x1))
      have Hu := Lib.hid hu
      have Hv := Lib.hid hv
      have X1 := Lib.hid x1
      clear hu hv x1 hsn
      generalize l[i] = s at *
      obtain ⟨c, hc⟩ : ∃ c, scheck s = c := ⟨_, rfl⟩
      rw [hc] at HC Hsn
      generalize rightE (l.take i) = R at *
      clear hc
      by_cases h0 : c = 0
      · subst h0
        have Hs2 : Hid (rightE (l.take (i + 1)) = R ++ [s]) := Lib.hid (by rw [Hsn.out, if_pos rfl])
        clear Hsn
        go_wp2_with (first
          | (go_at_call 116; refine HC.out.mono ?_; rintro r w2 ⟨rfl, hx2⟩; have HX2 := Lib.hid hx2; obtain ⟨y0, y1, y2, -⟩ := cells3 (hx2.blk HZ.out (fun f => f)); have hs2 := hx2.size; simp only [World.size_alloc] at hs2; clear hx2)
          | (at_builtin; refine wpList_append_one rfl (.tmp 15) (.tmp 17) 82 rfl fits92 ((Hown.out.ext (X1.out.ext HX2.out)).ext (Ext.alloc1 _ _)) rfl (by (try simp only [World.size_alloc]); omega) (blk_new _ _) rfl s ⟨_, _, rfl, ((Hu.out.ext (X1.out.ext HX2.out)).alloc _).mono (fun b hb _ => ⟨hb, fun e => by have := (Hlt.out _ e).1; have := hF b hb; omega⟩) (.inl (by decide)), ((Hv.out.ext (X1.out.ext HX2.out)).alloc _).mono (fun b hb _ => ⟨hb, fun e => by have := (Hlt.out _ e).1; have := hF b hb; omega⟩) (.inl (by decide))⟩ (by omega) (by decide) ?_; intro v4 w4 g1 g2 g3; obtain ⟨S4, n4, c4, rfl⟩ := g1.form0; have HG4 := Lib.hid g1; have HP4 := Lib.hid g2; clear g1 g2 g3))
        go_roundw
        case rel => exact ⟨i + 1, by omega, by go_num, by rw [Hs2.out]; exact HG4.out, ((HX.out.ext (X1.out.ext HX2.out)).alloc _).then HP4.out (fun b hb e => by have := (Hlt.out b e).1; omega)⟩
        case measure => simp [intOf] <;> omega
      · have h0b : (c == 0) = false := by simpa using h0
        have Hs2 : Hid (rightE (l.take (i + 1)) = R) := Lib.hid (by rw [Hsn.out, if_neg h0, List.append_nil])
        clear Hsn h0
        go_wp2_with (go_at_call 116; refine HC.out.mono ?_; rintro r w2 ⟨rfl, hx2⟩)
        go_roundw
        case rel => exact ⟨i + 1, by omega, by go_num, by rw [Hs2.out]; exact Hown.out.ext (X1.out.ext hx2), HX.out.ext (X1.out.ext hx2)⟩
        case measure => simp [intOf] <;> omega
    · obtain rfl : i = l.length := by omega
      rw [List.take_length] at Hown
      go_wp2
      go_ret
      exact ⟨_, rfl, HX.out, Hown.out⟩

theorem Own.spanSet {w : World} {B : Nat} {F : Nat → Prop} {v : Value} {ss : List SpanE} (h : Own spanC 92 w B F v ss) {i : Nat} (hi : i < ss.length) (q : UInt64) {R : Nat} (hg : v.ownBlock = some R) :
    Own spanC 92 (w.setCell ⟨R, i * 3 + 2, none⟩ (u64V q)) B F v (ss.set i ⟨ss[i].frm, ss[i].til, q⟩) := by
  obtain ⟨xs, ho, he⟩ := h
  rcases ho.2 with ⟨rfl, h0⟩ | ⟨g', cap, cur, rfl, hb, hgb, hnc, hcm, hcs, htake⟩
  · omega
  · obtain rfl : g' = R := by simpa [Value.ownBlock] using hg
    have hb' := blk_set hgb (i * 3 + 2) (u64V q)
    have hout : Out (fun b => b = g') w (w.setCell ⟨g', i * 3 + 2, none⟩ (u64V q)) := (Out.refl (fun b => b = g') w).setCell (p := ⟨g', i * 3 + 2, none⟩) (fun _ => rfl) _
    have hlen : xs.length = ss.length * 3 := ho.1
    refine ⟨xs.set (i * 3 + 2) (u64V q), ⟨by simpa using ho.1, .inr ⟨g', cap, _, by rw [List.length_set], hb, hb', by rw [List.length_set]; exact hnc, hcm, by simpa using hcs, ?_⟩⟩, fun j hj => ?_⟩
    · rw [List.length_set, Array.toList_setIfInBounds, ← htake]
      apply List.ext_getElem?
      intro k
      simp only [List.getElem?_take, List.getElem?_set, List.length_take]
      have : spanC.size = 3 := rfl
      split <;> (repeat' split) <;> first | rfl | (exfalso; omega) | skip
    · simp only [List.length_set] at hj
      obtain ⟨cs, hc, x, y, rfl, hr1, hr2⟩ := he j hj
      have hfr : ∀ {z : Value} {l : List UInt8}, Bs w (fun b => F b ∧ (Value.slice (some ⟨g', 0, none⟩) ss.length cap).ownBlock ≠ some b) z l → Bs (w.setCell ⟨g', i * 3 + 2, none⟩ (u64V q)) (fun b => F b ∧ (Value.slice (some ⟨g', 0, none⟩) ss.length cap).ownBlock ≠ some b) z l := fun h => h.out hout fun b _ hb e => hb.2 (by rw [e]; rfl)
      by_cases hij : j = i
      · subst hij
        refine ⟨[x, y, u64V q], fun k hk => ?_, x, y, by simp, by simpa using hfr hr1, by simpa using hfr hr2⟩
        have hk' : k < 3 := hk
        have := hc k hk
        have e3 : j * spanC.size = j * 3 := rfl
        rw [e3] at this ⊢
        rcases (show k = 0 ∨ k = 1 ∨ k = 2 by omega) with rfl | rfl | rfl
        · rw [List.getElem?_set, if_neg (by omega)]
          simpa using this
        · rw [List.getElem?_set, if_neg (by omega)]
          simpa using this
        · rw [List.getElem?_set, if_pos rfl]
          have : j * 3 + 2 < xs.length := by omega
          simp [this]
      · refine ⟨[x, y, u64V ss[j].seq], fun k hk => ?_, x, y, by rw [List.getElem_set_ne (Ne.symm hij)], by rw [List.getElem_set_ne (Ne.symm hij)]; simpa using hfr hr1, by rw [List.getElem_set_ne (Ne.symm hij)]; simpa using hfr hr2⟩
        have hk' : k < 3 := hk
        have e3 : j * spanC.size = j * 3 := rfl
        rw [List.getElem?_set, if_neg (by rw [e3]; omega)]
        exact hc k hk
end Go.Proofs.Yteaanagljmcidaa
