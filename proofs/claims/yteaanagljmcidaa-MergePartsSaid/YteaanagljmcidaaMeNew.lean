/- merge: New. -/
import Derived.Test.YteaanagljmcidaaMeAll
namespace Go.Proofs.Yteaanagljmcidaa
open Go.RowKit

attribute [local go_sem ↓] Go.wp_at_zero Go.wp_at_succ

/-- Lists of entries as elements. -/
abbrev lstC : Codec (List Ent) := slC entC (by decide)
theorem Sl.listAt {w : World} {F : Nat → Prop} {A : Option Addr} {n cap : Nat} {ls : List (List Ent)} (h : Sl lstC w F (.slice A n cap) ls) (i : Nat) (hi : i < ls.length) :
    ∃ b off v, A = some ⟨b, off, none⟩ ∧ F b ∧ w.cell? ⟨b, off + i, none⟩ = some v ∧ Sl entC w F v ls[i] := by
  obtain ⟨b, off, cs, hA, hF, hat, v, rfl, h1⟩ := h.get i hi
  have h0 := hat.cell 0 _ rfl
  exact ⟨b, off, v, hA, hF, by simpa [slC] using h0, h1⟩
theorem Own.cold {α : Type} {c : Codec α} {e : TypeId} {w : World} {B : Nat} {F : Nat → Prop} {v : Value} {l : List α} (h : Own c e w B F v l) : Own c e w B (fun b => F b ∧ v.ownBlock ≠ some b) v l := by
  obtain ⟨xs, ho, he⟩ := h
  refine ⟨xs, ho, fun i hi => ?_⟩
  obtain ⟨cs, h1, h2⟩ := he i hi
  exact ⟨cs, h1, c.mono h2 fun b hb _ => ⟨hb, hb.2⟩⟩

variable {w w' : World} {F G : Nat → Prop} {x : Value} {ls : List (List Ent)}

/-- What New hands back. -/
def Newed (w : World) (ls : List (List Ent)) (e : Ending) (w' : World) : Prop :=
  Ext w w' ∧ ((∀ l ∈ ls, SortedE l) → ∃ C v, e = .returned (.tuple #[.pointer (some ⟨C, 0, none⟩), .int .i64 0]) ∧ Cur w' (fun b => w.heap.size ≤ b ∧ b ≠ C ∧ v.ownBlock ≠ some b) C v ls none ∧ (∀ b, hot C v b → w.heap.size ≤ b)) ∧
    ((¬ ∀ l ∈ ls, SortedE l) → e = .returned (.tuple #[.pointer none, .int .i64 10]))

/-- j lists have been taken up. -/
structure NewR (w wr : World) (ls : List (List Ent)) (v : Value) (j : Nat) : Prop where
  ext : Ext w wr
  blk : wr.heap[w.heap.size]? = some (.cells #[v, .slice none 0 0, .int .u64 0, .int .u8 0, .bool false] 158)
  own : Own srcC 160 wr (w.heap.size + 1) (fun b => w.heap.size + 1 ≤ b) v ((ls.take j).map fun l => (l, 0))
  sorted : ∀ l ∈ ls.take j, SortedE l
theorem NewR.step {w wr w1 : World} {v : Value} {j : Nat} (h : NewR w wr ls v j) (hx : Ext wr w1) : NewR w w1 ls v j := ⟨h.ext.ext hx, hx.blk h.blk (fun f => f), h.own.ext hx, h.sorted⟩
theorem NewR.done {w wr : World} {v : Value} (h : NewR w wr ls v ls.length) : Newed w ls (.returned (.tuple #[.pointer (some ⟨w.heap.size, 0, none⟩), .int .i64 0])) wr := by
  have hs := h.sorted
  rw [List.take_length] at hs
  refine ⟨h.ext, fun _ => ⟨_, v, rfl, ⟨ls.map fun l => (l, 0), by rw [List.map_map]; simp [Function.comp_def], _, _, _, ⟨h.blk, ?_, ?_, fun hf => hf.2.1 rfl, fun b hb hf => hf.2.2 hb⟩, fun k hk => by cases hk⟩, fun b hb => ?_⟩, fun hn => absurd hs hn⟩
  · have := h.own
    rw [List.take_length] at this
    exact (this.cold.baseM (Nat.zero_le _)).mono fun b hb _ => ⟨by have := hb.1; omega, by have := hb.1; omega, hb.2⟩
  · intro e; have := (h.own.lt _ e).1; omega
  · rcases hb with rfl | hb
    · exact Nat.le_refl _
    · have := (h.own.lt _ hb).1; omega
theorem mem_take_succ {ls : List (List Ent)} {j : Nat} (hj : j < ls.length) {l : List Ent} (h : l ∈ ls.take (j + 1)) : l ∈ ls.take j ∨ l = ls[j] := by
  rw [List.take_succ_eq_append_getElem hj] at h
  exact (List.mem_append.1 h).imp id List.mem_singleton.1

set_option maxRecDepth 100000 in
set_option maxHeartbeats 4000000 in
theorem me_new (hx : Sl lstC w F x ls) (hls : ls.length ≤ 1000) (hll : ∀ l ∈ ls, l.length ≤ 1000) : Calls Try.prog 47 #[x] w (Newed w ls) := by
  obtain ⟨A, cap, rfl, -⟩ := hx.form
  have x0 := Ext.alloc1 w (.cells #[.slice none 0 0, .slice none 0 0, .int .u64 0, .int .u8 0, .bool false] 158)
  have HR0 := Lib.hid (⟨x0, blk_new _ _, Own.nil _ _ _ _ _, fun l hl => by simp at hl⟩ : NewR w _ ls (.slice none 0 0) 0)
  have Hx := Lib.hid hx
  clear hx x0
  go_enter Try.func47, Try.ntmps47
  go_wp2
  go_loopw [14] (fun s14 wr => ∃ (j : Nat) (v : Value), j ≤ ls.length ∧ s14 = .int .i64 j ∧ NewR w wr ls v j) (fun s14 _ => ls.length - (intOf s14).toNat)
  case atStart => exact ⟨0, _, Nat.zero_le _, rfl, HR0.out⟩
  case round =>
    obtain ⟨wj, rfl⟩ : ∃ wj : World, wj = wr := ⟨_, rfl⟩
    obtain ⟨j, v, hj, rfl, hN⟩ := hrel
    obtain ⟨V, vn, vc, rfl⟩ := hN.own.form0
    have HN := Lib.hid hN
    clear hN
    by_cases hlt : j < ls.length
    · obtain ⟨b0, o0, x0, hA, -, c0, hl⟩ := (Hx.out.ext HN.out.ext).listAt j hlt
      subst hA
      have hlj : ls[j].length ≤ 1000 := hll _ (List.getElem_mem hlt)
      have Hno : Hid (¬ SortedE ls[j] → ¬ ∀ l ∈ ls, SortedE l) := Lib.hid fun h h2 => h (h2 _ (List.getElem_mem hlt))
      generalize hL : ls[j] = L at *
      have HL := Lib.hid hL
      obtain ⟨X, xc, rfl, -⟩ := hl.form
      have Hl := Lib.hid hl
      clear hl hL
      go_wp2
      go_loopw [7, 20] (fun s7 s20 wr => ∃ i : Nat, i ≤ L.length ∧ s20 = .int .i64 i ∧ Ext wj wr ∧ SortedE (L.take i) ∧ Own entC 32 wr wj.heap.size (fun b => wj.heap.size ≤ b) s7 (L.take i)) (fun _ s20 _ => L.length - (intOf s20).toNat)
      case atStart => exact ⟨0, Nat.zero_le _, rfl, Out.refl _ _, .nil, Own.nil _ _ _ _ _⟩
      case round =>
        obtain ⟨wo, rfl⟩ : ∃ wo : World, wo = wr := ⟨_, rfl⟩
        obtain ⟨i, hi, rfl, hxi, hsort, hown⟩ := hrel
        obtain ⟨X7, n7, c7, rfl⟩ := hown.form0
        have Hxi := Lib.hid hxi
        have Hsort := Lib.hid hsort
        have Hown := Lib.hid hown
        have HFl := Lib.hid hown.lt
        have hsz := hxi.size
        clear hxi hsort hown
        by_cases hlti : i < L.length
        · obtain ⟨b1, o1, u1, v1, rfl, -, e0, e1, e2, e3, hu, hv⟩ := (Hl.out.ext Hxi.out).ent i hlti
          obtain ⟨U, N1, n1, rfl⟩ := hu.form0
          obtain ⟨V1, N2, n2, rfl⟩ := hv.form0
          have x1 := Ext.alloc1 wo (.cells #[.slice U N1 n1, u64V L[i].key.seq, byteV L[i].key.kind, .slice V1 N2 n2] 32)
          obtain ⟨z0, z1, z2, z3, zf⟩ := cells4 (blk_new wo (.cells #[.slice U N1 n1, u64V L[i].key.seq, byteV L[i].key.kind, .slice V1 N2 n2] 32))
          have Hu := Lib.hid (hu.ext x1).drew
          have Hv := Lib.hid (hv.ext x1).drew
          have X1 := Lib.hid x1.drew
          have Hown1 := Lib.hid (Hown.out.ext x1.drew)
          clear hu hv x1
          by_cases hi0 : i = 0
          · have hsn := Lib.hid (Hsort.out.snoc hlti (fun h => absurd h (by omega)))
            have hi1 : ¬ (0 < i) := by omega
            have hi2 : ¬ ((0 : Int) < (i : Int)) := by omega
            clear hi0
            have HuW := Hu
            have HvW := Hv
            have HownW := Hown1
            have HXW := Lib.hid (Hxi.out.ext X1.out)
            have HFlW := Lib.hid Hown1.out.lt
            have hszW : wj.heap.size ≤ (wo.alloc (.cells #[.slice U N1 n1, u64V L[i].key.seq, byteV L[i].key.kind, .slice V1 N2 n2] 32)).drew.heap.size := by simp; omega
            go_wp2
            go_region
            go_wp2_with (first
              | (go_at_call 104; refine (merge_one _ L[i] HuW.out HvW.out).mono ?_; rintro r w4 ⟨u4, v4, rfl, hx4, hu4, hv4⟩; obtain ⟨U4, n4, m4, rfl⟩ := hu4.form0; obtain ⟨V4, p4, q4, rfl⟩ := hv4.form0; have HU4 := Lib.hid hu4; have HV4 := Lib.hid hv4; have HX4 := Lib.hid hx4; have hs4 := hx4.size; clear hu4 hv4 hx4)
              | (at_builtin; refine wpList_append_one rfl (.tmp 39) (.tmp 42) 43 rfl fits32 ((HownW.out.ext HX4.out).ext (Ext.alloc1 _ _)) rfl (by simp; omega) (blk_new _ _) rfl L[i] (ent_rep (HU4.out.alloc _) (HV4.out.alloc _) (fun b hb _ => fresh_ok hszW HFlW.out hb) (fun b hb _ => fresh_ok hszW HFlW.out hb)) (by rw [List.length_take]; omega) (by decide) ?_; intro v5 w5 g1 g2 g3; obtain ⟨A5, N5, c5, rfl⟩ := g1.form0; have G1 := Lib.hid g1; have G2 := Lib.hid g2; clear g1 g2 g3))
            go_roundw
            case rel =>
              have hxx : Ext wj w5 := ((HXW.out.ext HX4.out).alloc _).then G2.out (fun b hb e => by have := (HFlW.out _ e).1; omega)
              exact ⟨i + 1, by omega, by go_num, hxx, hsn.out, by rw [take_succ_get hlti]; exact G1.out⟩
            case measure => simp [intOf]; omega
          · obtain ⟨q, rfl⟩ : ∃ q, i = q + 1 := ⟨i - 1, by omega⟩
            have hltq : q < L.length := by omega
            obtain ⟨b2, o2, u2, v2, hA2, -, d0, d1, d2, d3, hu2, hv2⟩ := (Hl.out.ext Hxi.out).ent q hltq
            injection hA2 with hA2
            injection hA2 with hb2 ho2
            subst hb2 ho2
            obtain ⟨U2, P1, p1, rfl⟩ := hu2.form0
            have x1 := Ext.alloc1 wo (.cells #[.slice U N1 n1, u64V L[q + 1].key.seq, byteV L[q + 1].key.kind, .slice V1 N2 n2] 32)
            have f0 := x1.cell d0 (fun f => f)
            have f1 := x1.cell d1 (fun f => f)
            have f2 := x1.cell d2 (fun f => f)
            have Hu2 := Lib.hid (hu2.ext x1).drew
            have hw1 : IntKind.i64.wrap (((q + 1 : Nat) : Int) - 1) = (q : Int) := by rw [IntKind.wrap_i64]; omega
            have hw2 : IntKind.i64.wrap ((q : Int) + 1 - 1) = (q : Int) := by rw [IntKind.wrap_i64]; omega
            have hw3 : IntKind.i64.wrap (q : Int) = (q : Int) := by rw [IntKind.wrap_i64]; omega
            clear hu2 hv2 x1
            go_wp2
            go_region_held3 (fun w' => w'.cell? ⟨b1, o1 + q * 4, none⟩ = some (.slice U2 P1 p1) ∧ w'.cell? ⟨b1, o1 + q * 4 + 1, none⟩ = some (u64V L[q].key.seq) ∧ w'.cell? ⟨b1, o1 + q * 4 + 2, none⟩ = some (byteV L[q].key.kind) ∧ w'.cell? ⟨wo.heap.size, 0, none⟩ = some (.slice U N1 n1) ∧ w'.cell? ⟨wo.heap.size, 1, none⟩ = some (u64V L[q + 1].key.seq) ∧ w'.cell? ⟨wo.heap.size, 2, none⟩ = some (byteV L[q + 1].key.kind) ∧ w'.cell? ⟨wo.heap.size, 3, none⟩ = some (.slice V1 N2 n2)) (first | go_keep | exact ⟨hx2.cell f0 (fun f => f), hx2.cell f1 (fun f => f), hx2.cell f2 (fun f => f), hx2.cell z0 (fun f => f), hx2.cell z1 (fun f => f), hx2.cell z2 (fun f => f), hx2.cell z3 (fun f => f)⟩) (first | (go_at_call 98; refine (ikey_compare _ L[q].key L[q + 1].key Hu2.out Hu.out).mono ?_; rintro e w2 ⟨rfl, hx2⟩))
            have y0 := hx2.cell z0 (fun f => f)
            have y1 := hx2.cell z1 (fun f => f)
            have y2 := hx2.cell z2 (fun f => f)
            have y3 := hx2.cell z3 (fun f => f)
            have HuW := Lib.hid (Hu.out.ext hx2)
            have HvW := Lib.hid (Hv.out.ext hx2)
            have HownW := Lib.hid (Hown1.out.ext hx2)
            have HFlW := Lib.hid HownW.out.lt
            have HXW := Lib.hid ((Hxi.out.ext X1.out).ext hx2)
            have hszW : wj.heap.size ≤ w2.heap.size := HXW.out.size
            by_cases hk : kcmp L[q].key L[q + 1].key < 0
            · have hsn := Lib.hid (Hsort.out.snoc hlti (fun _ => hk))
              go_wp2_with (first
                | (go_at_call 104; refine (merge_one _ L[q + 1] HuW.out HvW.out).mono ?_; rintro r w4 ⟨u4, v4, rfl, hx4, hu4, hv4⟩; obtain ⟨U4, n4, m4, rfl⟩ := hu4.form0; obtain ⟨V4, p4, q4, rfl⟩ := hv4.form0; have HU4 := Lib.hid hu4; have HV4 := Lib.hid hv4; have HX4 := Lib.hid hx4; have hs4 := hx4.size; clear hu4 hv4 hx4)
                | (at_builtin; refine wpList_append_one rfl (.tmp 39) (.tmp 42) 43 rfl fits32 ((HownW.out.ext HX4.out).ext (Ext.alloc1 _ _)) rfl (by simp; omega) (blk_new _ _) rfl L[q + 1] (ent_rep (HU4.out.alloc _) (HV4.out.alloc _) (fun b hb _ => fresh_ok hszW HFlW.out hb) (fun b hb _ => fresh_ok hszW HFlW.out hb)) (by rw [List.length_take]; omega) (by decide) ?_; intro v5 w5 g1 g2 g3; obtain ⟨A5, N5, c5, rfl⟩ := g1.form0; have G1 := Lib.hid g1; have G2 := Lib.hid g2; clear g1 g2 g3))
              go_roundw
              case rel =>
                have hxx : Ext wj w5 := ((HXW.out.ext HX4.out).alloc _).then G2.out (fun b hb e => by have := (HFlW.out _ e).1; omega)
                exact ⟨q + 1 + 1, by omega, by go_num, hxx, hsn.out, by rw [take_succ_get hlti]; exact G1.out⟩
              case measure => simp [intOf]; omega
            · have Hbad := Lib.hid (Hno.out fun h => hk (h.lt hltq hlti (Nat.lt_succ_self q)))
              go_wp2
              refine bodyPost_ret (v := .tuple #[.pointer none, .int .i64 10]) (by simp [results, Try.results47, go_sem]) rfl ?_
              exact ⟨HN.out.ext.ext HXW.out, fun h => absurd h Hbad.out, fun _ => rfl⟩
        · have hsL : SortedE L := by
            have := Hsort.out
            rwa [List.take_of_length_le (by omega)] at this
          have HsL := Lib.hid hsL
          have hwj : w.heap.size < wj.heap.size := blk_lt HN.out.blk
          have HFv := Lib.hid HN.out.own.lt
          have Hslo := Lib.hid (Hown.out.sl (G := fun b => wj.heap.size ≤ b ∧ b < wo.heap.size) (by decide) (by rw [List.length_take]; show _ ≤ 140737488355328; omega) (fun b h1 h2 => ⟨h1, h2⟩) (fun b h1 h2 => ⟨h1, h2⟩))
          rw [List.take_of_length_le (by omega)] at Hslo
          have HNo := Lib.hid (HN.out.step Hxi.out)
          obtain ⟨r0, r1, r2, r3, r4, rf⟩ := cells5 HNo.out.blk
          clear hsL
          go_wp2_with (at_builtin; refine wpList_append_one rfl (.tmp 49) (.tmp 52) 156 rfl fits160 (HNo.out.own.ext (Ext.alloc1 _ _)) rfl (by simp; omega) (blk_new _ _) rfl (L, (0 : Int)) ⟨_, rfl, (Hslo.out.alloc _).mono (fun b hb _ => ⟨by have := hb.1; omega, fun e => by have := (HFv.out _ e).2; have := hb.1; omega⟩) (.inl (by decide))⟩ (by rw [List.length_map, List.length_take]; omega) (by decide) ?_; intro v5 w5 g1 g2 g3; obtain ⟨A5, N5, c5, rfl⟩ := g1.form0; have HB5 := Lib.hid (g2.blk (blk_alloc HNo.out.blk _) (fun e => by have := (HFv.out _ e).1; omega)); obtain ⟨q0, q1, q2, q3, q4, qf⟩ := cells5 HB5.out; have G1 := Lib.hid g1; have G2 := Lib.hid g2; clear g1 g2 g3)
          go_roundw
          case rel =>
            have ho : Out (fun b => b = w.heap.size) w5 (w5.setCell ⟨w.heap.size, 0, none⟩ (.slice A5 N5 c5)) := (Out.refl (fun b => b = w.heap.size) w5).setCell (p := ⟨w.heap.size, 0, none⟩) (fun _ => rfl) _
            refine ⟨j + 1, .slice A5 N5 c5, by omega, by go_num, ((HNo.out.ext.alloc _).then G2.out (fun b hb e => by have := (HFv.out _ e).1; omega)).then ho (fun b hb e => by omega), by have := blk_set HB5.out 0 (.slice A5 N5 c5); simpa using this, ?_, fun l hl => ?_⟩
            · rw [List.take_succ_eq_append_getElem hlt, List.map_append, HL.out]
              exact G1.out.frame ho (fun b _ hb _ e => by omega) (fun b _ hb _ e => by omega)
            · rcases mem_take_succ hlt hl with h | h
              · exact HNo.out.sorted l h
              · rw [h, HL.out]; exact HsL.out
          case measure => simp [intOf]; omega
    · obtain rfl : j = ls.length := by omega
      go_wp2
      refine bodyPost_ret (v := .tuple #[.pointer (some ⟨w.heap.size, 0, none⟩), .int .i64 0]) (by simp [results, Try.results47, go_sem]) rfl ?_
      exact HN.out.done
end Go.Proofs.Yteaanagljmcidaa
