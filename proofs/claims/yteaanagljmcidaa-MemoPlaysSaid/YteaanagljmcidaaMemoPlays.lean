/- law10: MemoPlays. -/
import Derived.Test.YteaanagljmcidaaTellsX
namespace Go.Proofs.Yteaanagljmcidaa
open Go.RowKit

attribute [local go_sem ↓] Go.wp_at_zero Go.wp_at_succ

theorem Sl.bytesB {w : World} {F : Nat → Prop} {A : Option Addr} {n cap : Nat} {l : List (List UInt8)} (h : Sl bytesCA w F (.slice A n cap) l) (i : Nat) (hi : i < l.length) :
    ∃ b off u, A = some ⟨b, off, none⟩ ∧ F b ∧ w.cell? ⟨b, off + i, none⟩ = some u ∧ BsA w F u l[i] := by
  obtain ⟨b, off, cs, hA, hF, hat, u, rfl, hb⟩ := h.get i hi
  have h1 := hat.cell 0 _ rfl
  exact ⟨b, off, u, hA, hF, by simpa [bytesCA, slC] using h1, hb⟩
theorem Sl.numB {w : World} {F : Nat → Prop} {A : Option Addr} {n cap : Nat} {l : List UInt64} (h : Sl u64CA w F (.slice A n cap) l) (i : Nat) (hi : i < l.length) :
    ∃ b off, A = some ⟨b, off, none⟩ ∧ w.cell? ⟨b, off + i, none⟩ = some (u64V l[i]) := by
  obtain ⟨b, off, cs, hA, hF, hat, hr⟩ := h.get i hi
  have hr' : cs = [u64V l[i]] := hr
  subst hr'
  have h1 := hat.cell 0 _ rfl
  exact ⟨b, off, hA, by simpa [u64CA, u64C] using h1⟩
theorem TellsX.getMI {mv xv : Value} {I : World → Prop} {E : List Ent} {L : List SpanE} {last : Nat} {g : List UInt8 → Nat → List UInt8 × Int} (h : TellsX mv xv I E L last g) {w : World} {F : Nat → Prop} {kv : Value} (key : List UInt8) (z : Int) (q : Nat) (hz : z = q) {v : List UInt8} {st : Int} (hg : g key q = (v, st)) (hI : I w) (hk : Bs w F kv key) :
    Calls Try.prog 73 #[mv, kv, .int .u64 z] w (Got w (v, st)) := by subst hz; rw [← hg]; exact h.getM key q hI hk
theorem TellsX.getXI {mv xv : Value} {I : World → Prop} {E : List Ent} {L : List SpanE} {last : Nat} {g : List UInt8 → Nat → List UInt8 × Int} (h : TellsX mv xv I E L last g) {w : World} {F : Nat → Prop} {kv : Value} (key : List UInt8) (z : Int) (q : Nat) (hz : z = q) {v : List UInt8} {st : Int} (hg : g key q = (v, st)) (hI : I w) (hk : Bs w F kv key) :
    Calls Try.prog 94 #[xv, kv, .int .u64 z] w (Got w (v, st)) := by subst hz; rw [← hg]; exact h.getX key q hI hk

set_option maxRecDepth 100000 in
set_option maxHeartbeats 8000000 in
theorem memoPlays_walk (w : World) (none_ : Bool) {F G H : Nat → Prop} {v kv sv : Value} (script : List StepE) (hv : Sl stepCA w F v script) (keys : List (List UInt8)) (hk : Sl bytesCA w G kv keys) (seqs : List UInt64) (hq : Sl u64CA w H sv seqs) :
    Calls Try.prog 23 #[.bool none_, v, kv, sv] w fun e w' => e = .returned (.bool true) ∧ Ext w w' := by
  obtain ⟨A, N, n, rfl⟩ := hv.form0
  obtain ⟨U, n1, rfl, -, -, hk3, -⟩ := hk.form
  have hk3 : keys.length ≤ 9223372036854775807 := hk3
  obtain ⟨S, n2, rfl, -, -, hq3, -⟩ := hq.form
  have hq3 : seqs.length ≤ 9223372036854775807 := hq3
  have Hv := Lib.hid (hv.mono (G := fun b => b < w.heap.size) (fun b _ hb => hb) (.inl (by decide)))
  have Hk := Lib.hid (hk.mono (G := fun b => b < w.heap.size) (fun b _ hb => hb) (.inl (by decide)))
  have Hq := Lib.hid (hq.mono (G := fun b => b < w.heap.size) (fun b _ hb => hb) (.inl (by decide)))
  clear hv hk hq
  go_enter Try.func23, Try.ntmps23
  go_upto_if 30 with (first
    | (go_at_call 69; refine (law10_awake _).mono ?_; rintro r w1 ⟨rfl, hx1⟩; have HX1 := Lib.hid hx1; have hz1 := hx1.size; clear hx1)
    | (go_at_call 70; refine (memo_new _).mono ?_; rintro r w2 ⟨M, rfl, hx2, hm2⟩; have HX2 := Lib.hid (HX1.out.ext hx2); have HM2 := Lib.hid hm2; have hz2 := hx2.size; clear hm2 hx2))
  go_cut [9, 10] (fun s9 s10 wx => Ext w wx ∧ ∃ st, Pr wx (fun b => w.heap.size ≤ b ∧ b < wx.heap.size) s9 s10 st ∧ okP 0 st)
  case first =>
    cases none_ with
    | true =>
      go_wp2
      go_meet
      exact ⟨HX2.out.alloc _, none, ⟨rfl, rfl⟩, trivial⟩
    | false =>
      go_wp2
      go_meet
      refine ⟨HX2.out.alloc _, some (s0, []), ⟨fun b => w.heap.size ≤ b ∧ b < w2.heap.size, fun b => b = w2.heap.size, M, w2.heap.size, rfl, rfl, Mm.ext (Mm.mono HM2.out fun b hb h => ⟨by omega, hb⟩) (Ext.alloc1 w2 _), Rx.new w2, fun b hb => ⟨hb.1, by simp; omega⟩, fun b hb => ⟨by omega, by simp; omega⟩, fun b hb hc => by omega⟩, RelX.nil, GoodX.nil, okS.zero, Nat.le_refl _⟩
  case rest =>
    obtain ⟨hxc, st, hp, hok⟩ := hcut
    obtain ⟨⟨pm, rfl⟩, px, rfl⟩ := hp.formM
    have HXc := Lib.hid hxc
    have HR := Lib.hid (law10_run wc script (Hv.out.ext hxc) (fun b hb h => by have h1 : b < w.heap.size := hb; omega) hp hok (by decide) (fun b hb => hb.2))
    have hzc := hxc.size
    clear hxc hp hok HX1 HX2 HM2 hz1 hz2
    go_wp2_with (first
      | (go_at_call 71; refine HR.out.mono ?_; rintro r w3 ⟨rfl, st', hok', hg', ho3, hp3⟩; have HX3 : Hid (Ext w w3) := Lib.hid (HXc.out.then ho3 (fun b hb h => by omega)); obtain ⟨I, E, L, last, g, hT, hI⟩ := tells_pr hp3 hok'; have HT := Lib.hid hT; have HI := Lib.hid hI; clear hok' hg' ho3 hp3 hT hI)
      | (go_at_call 76; refine (HT.out.lastM HI.out).mono ?_; rintro r w4 ⟨rfl, hx4⟩; have HX4 := Lib.hid (HX3.out.ext hx4); have HI4 := Lib.hid (HT.out.keep HI.out hx4); clear hx4)
      | (go_at_call 91; refine (HT.out.lastX HI4.out).mono ?_; rintro r w5 ⟨rfl, hx5⟩; have HX5 := Lib.hid (HX4.out.ext hx5); have HI5 := Lib.hid (HT.out.keep HI4.out hx5); clear hx5)
      | (go_at_call 92; refine (HT.out.entsX HI5.out).mono ?_; rintro r w6 ⟨v6, rfl, hx6, hs6⟩; have HX6 := Lib.hid (HX5.out.ext hx6); have HI6 := Lib.hid (HT.out.keep HI5.out hx6); have HS6 := Lib.hid hs6; obtain ⟨A6, c6, rfl, -⟩ := hs6.form; clear hx6 hs6)
      | (go_at_call 93; refine (HT.out.spansX HI6.out).mono ?_; rintro r w7 ⟨v7, rfl, hx7, hs7⟩; have HX7 := Lib.hid (HX6.out.ext hx7); have HI7 := Lib.hid (HT.out.keep HI6.out hx7); have HS6b := Lib.hid (HS6.out.ext hx7); have HS7 := Lib.hid hs7; obtain ⟨A7, c7, rfl, -⟩ := hs7.form; clear hx7 hs7))
    have hE := HT.out.lenE
    have hL := HT.out.lenL
    clear HR
    go_loopw [13, 49] (fun s13 s49 wr => ∃ i : Nat, i ≤ E.length ∧ s49 = .int .i64 i ∧ s13 = .int .i64 (sumE (E.take i)) ∧ Ext w7 wr) (fun _ s49 _ => E.length - (intOf s49).toNat)
    case atStart => exact ⟨0, Nat.zero_le _, rfl, rfl, Out.refl _ _⟩
    case round =>
      obtain ⟨wo, rfl⟩ : ∃ x : World, x = wr := ⟨_, rfl⟩
      obtain ⟨i, hi, rfl, rfl, hx⟩ := hrel
      have HX := Lib.hid hx
      clear hx
      by_cases hlt : i < E.length
      · as_aux_lemma =>
          obtain ⟨b1, o1, u1, v1, rfl, -, c0, c1, c2, c3, hu, hv⟩ := (HS6b.out.ext HX.out).ent i hlt
          obtain ⟨U1, N1, rfl, -⟩ := hu.form
          obtain ⟨V1, N2, rfl, -⟩ := hv.form
          have hs := sumE_succ hlt
          have hb := sumE_le (l := E.take i) fun e he => HT.out.smE e (List.mem_of_mem_take he)
          have hb2 := HT.out.smE _ (List.getElem_mem hlt)
          rw [List.length_take] at hb
          rw [show wE E[i] = (E[i].key.user.length : Int) + E[i].value.length + 16 from rfl] at hs
          have Hs := Lib.hid hs
          have x1 := Lib.hid (HX.out.alloc (.cells #[.slice U1 E[i].key.user.length N1, u64V E[i].key.seq, byteV E[i].key.kind, .slice V1 E[i].value.length N2] 32))
          obtain ⟨z0, z1, z2, z3, -⟩ := cells4 (blk_new wo (.cells #[.slice U1 E[i].key.user.length N1, u64V E[i].key.seq, byteV E[i].key.kind, .slice V1 E[i].value.length N2] 32))
          clear hu hv hs
          generalize sumE (E.take i) = sm at *
          generalize hul : E[i].key.user.length = ul at *
          generalize hvl : E[i].value.length = vl at *
          have hm : min i E.length = i := by omega
          rw [hm] at hb
          clear hul hvl hm
          go_wp2
          go_roundw
          case rel => exact ⟨i + 1, by omega, by go_num, by rw [Hs.out] <;> go_num, x1.out⟩
          case measure => simp [intOf] <;> omega
      · obtain rfl : i = E.length := by omega
        rw [List.take_length]
        have hE0 := sumE_le HT.out.smE
        have HXe := Lib.hid (HX7.out.ext HX.out)
        have HI8 := Lib.hid (HT.out.keep HI7.out HX.out)
        have HSE := Lib.hid (HS6b.out.ext HX.out)
        have HSL := Lib.hid (HS7.out.ext HX.out)
        obtain ⟨sE, hsE⟩ : ∃ sE, sumE E = sE := ⟨_, rfl⟩
        rw [hsE] at hE0 ⊢
        have HsE := Lib.hid hsE
        clear hsE hlt
        go_wp2
        go_loopw [13, 67] (fun s13 s67 wr => ∃ i : Nat, i ≤ L.length ∧ s67 = .int .i64 i ∧ s13 = .int .i64 (sE + sumS (L.take i)) ∧ Ext wo wr) (fun _ s67 _ => L.length - (intOf s67).toNat)
        case atStart => exact ⟨0, Nat.zero_le _, rfl, by simp [sumS], Out.refl _ _⟩
        case round =>
          obtain ⟨wp, rfl⟩ : ∃ x : World, x = wr := ⟨_, rfl⟩
          obtain ⟨i, hi, rfl, rfl, hx⟩ := hrel
          have HXp := Lib.hid hx
          clear hx
          by_cases hlt : i < L.length
          · as_aux_lemma =>
              obtain ⟨b1, o1, u1, v1, rfl, -, c0, c1, c2, hu, hv⟩ := (HSL.out.ext HXp.out).span i hlt
              obtain ⟨U1, N1, rfl, -⟩ := hu.form
              obtain ⟨V1, N2, rfl, -⟩ := hv.form
              have hs := sumS_succ hlt
              have hb := sumS_le (l := L.take i) fun e he => HT.out.smL e (List.mem_of_mem_take he)
              have hb2 := HT.out.smL _ (List.getElem_mem hlt)
              rw [List.length_take] at hb
              rw [show wS L[i] = (L[i].frm.length : Int) + L[i].til.length + 16 from rfl] at hs
              have Hs := Lib.hid hs
              have x1 := Lib.hid (HXp.out.alloc (.cells #[.slice U1 L[i].frm.length N1, .slice V1 L[i].til.length N2, u64V L[i].seq] 92))
              obtain ⟨z0, z1, z2, -⟩ := cells3 (blk_new wp (.cells #[.slice U1 L[i].frm.length N1, .slice V1 L[i].til.length N2, u64V L[i].seq] 92))
              clear hu hv hs
              generalize sumS (L.take i) = sm at *
              generalize hul : L[i].frm.length = ul at *
              generalize hvl : L[i].til.length = vl at *
              have hm : min i L.length = i := by omega
              rw [hm] at hb
              clear hul hvl hm
              go_wp2
              go_roundw
              case rel => exact ⟨i + 1, by omega, by go_num, by rw [Hs.out] <;> go_num, x1.out⟩
              case measure => simp [intOf] <;> omega
          · obtain rfl : i = L.length := by omega
            rw [List.take_length]
            have HSz : Hid (∀ w, I w → Calls Try.prog 84 #[.pointer pm] w fun e w' => e = .returned (.int .i64 (sumE E + sumS L)) ∧ Ext w w') := Lib.hid fun w h => HT.out.size h
            rw [HsE.out] at HSz
            have HI9 := Lib.hid (HT.out.keep HI8.out HXp.out)
            have HXp2 := Lib.hid (HXe.out.ext HXp.out)
            have HSE2 := Lib.hid (HSE.out.ext HXp.out)
            have HSL2 := Lib.hid (HSL.out.ext HXp.out)
            generalize sE + sumS L = tot at *
            clear hE0
            go_wp2_with (first
              | (go_at_call 89; refine (HT.out.entsM HI9.out).mono ?_; rintro r w8 ⟨v8, rfl, hx8, hs8⟩; have HX8 := Lib.hid (HXp2.out.ext hx8); have HI10 := Lib.hid (HT.out.keep HI9.out hx8); have HS8 := Lib.hid hs8; have HSE3 := Lib.hid (HSE2.out.ext hx8); have HSL3 := Lib.hid (HSL2.out.ext hx8); obtain ⟨A8, n8, c8, rfl⟩ := hs8.form0; clear hx8 hs8)
              | (go_at_call 32; refine (r3_sameEq _ _ HS8.out HSE3.out).mono ?_; rintro r w9 ⟨rfl, hx9⟩; have HX9 := Lib.hid (HX8.out.ext hx9); have HI11 := Lib.hid (HT.out.keep HI10.out hx9); have HSL4 := Lib.hid (HSL3.out.ext hx9); clear hx9)
              | (go_at_call 90; refine (HT.out.spansM HI11.out).mono ?_; rintro r w10 ⟨v10, rfl, hx10, hs10⟩; have HX10 := Lib.hid (HX9.out.ext hx10); have HI12 := Lib.hid (HT.out.keep HI11.out hx10); have HS10 := Lib.hid hs10; have HSL5 := Lib.hid (HSL4.out.ext hx10); obtain ⟨A10, n10, c10, rfl⟩ := hs10.form0; clear hx10 hs10)
              | (go_at_call 66; refine (r9_sameEq _ _ HS10.out HSL5.out).mono ?_; rintro r w11 ⟨rfl, hx11⟩; have HX11 := Lib.hid (HX10.out.ext hx11); have HI13 := Lib.hid (HT.out.keep HI12.out hx11); clear hx11)
              | (go_at_call 84; refine (HSz.out _ HI13.out).mono ?_; rintro r w12 ⟨rfl, hx12⟩; have HX12 := Lib.hid (HX11.out.ext hx12); have HI14 := Lib.hid (HT.out.keep HI13.out hx12); clear hx12))
            go_loopw [102] (fun s102 wr => ∃ i : Nat, i ≤ keys.length ∧ s102 = .int .i64 i ∧ Ext w12 wr) (fun s102 _ => keys.length - (intOf s102).toNat)
            case atStart => exact ⟨0, Nat.zero_le _, rfl, Out.refl _ _⟩
            case round =>
              as_aux_lemma =>
              obtain ⟨wq, rfl⟩ : ∃ x : World, x = wr := ⟨_, rfl⟩
              obtain ⟨j, hj, rfl, hxj⟩ := hrel
              have HXj := Lib.hid hxj
              clear hxj
              by_cases hltj : j < keys.length
              · obtain ⟨b1, o1, u1, hA1, -, c0, hu⟩ := (Hk.out.ext (HX12.out.ext HXj.out)).bytesB j hltj
                subst hA1
                obtain ⟨U5, m5, d5, rfl⟩ := hu.form0
                by_cases h20 : 20 ≤ j
                · go_wp2
                  go_ret
                  exact ⟨rfl, HX12.out.ext HXj.out⟩
                have HC := Lib.hid (r1_cutI _ hu 80 80 rfl (by decide))
                have HIj := Lib.hid (HT.out.keep HI14.out HXj.out)
                clear hu
                generalize (keys[j]).take 80 = key at *
                by_cases hs : j < seqs.length
                · obtain ⟨b2, o2, hA2, d0⟩ := Sl.numB (Hq.out.ext (HX12.out.ext HXj.out)) j hs
                  subst hA2
                  obtain ⟨gv, gst, hg⟩ : ∃ gv gst, g key seqs[j].toNat = (gv, gst) := ⟨_, _, rfl⟩
                  have Hg := Lib.hid hg
                  clear hg
                  generalize seqs[j] = sq at *
                  go_wp2_with (first
                    | (go_at_call 77; refine HC.out.mono ?_; rintro e w5 ⟨x5, rfl, hx5, hb5⟩; obtain ⟨K5, k5, e5, rfl⟩ := hb5.form0; have HX5 := Lib.hid hx5; have HB5 := Lib.hid hb5; have d1 := hx5.cell d0 (fun f => f); clear hx5 hb5)
                    | (go_at_call 73; refine (HT.out.getMI key _ sq.toNat rfl Hg.out (HT.out.keep HIj.out HX5.out) HB5.out).mono ?_; rintro r w6 ⟨x6, rfl, hx6, hb6⟩; obtain ⟨Z6, n6, c6, rfl⟩ := hb6.form0; have HX6 := Lib.hid (HX5.out.ext hx6); have HB6 := Lib.hid hb6; have HB5b := Lib.hid (HB5.out.ext hx6); clear hx6 hb6)
                    | (go_at_call 94; refine (HT.out.getXI key _ sq.toNat rfl Hg.out (HT.out.keep HIj.out HX6.out) HB5b.out).mono ?_; rintro r w7 ⟨x7, rfl, hx7, hb7⟩; obtain ⟨Z7, n7, c7, rfl⟩ := hb7.form0; have HX7 := Lib.hid (HX6.out.ext hx7); have HB7 := Lib.hid hb7; have HB6b := Lib.hid (HB6.out.ext hx7); clear hx7 hb7)
                    | (go_at_call 74; refine (r1_same _ HB6b.out HB7.out).mono ?_; rw [beq_self_list]; rintro r w8 ⟨rfl, rfl⟩))
                  go_roundw
                  case rel => exact ⟨j + 1, by omega, by go_num, HXj.out.ext HX7.out⟩
                  case measure => simp [intOf] <;> omega
                · obtain ⟨gv, gst, hg⟩ : ∃ gv gst, g key 72057594037927935 = (gv, gst) := ⟨_, _, rfl⟩
                  have Hg := Lib.hid hg
                  clear hg
                  go_wp2_with (first
                    | (go_at_call 77; refine HC.out.mono ?_; rintro e w5 ⟨x5, rfl, hx5, hb5⟩; obtain ⟨K5, k5, e5, rfl⟩ := hb5.form0; have HX5 := Lib.hid hx5; have HB5 := Lib.hid hb5; clear hx5 hb5)
                    | (go_at_call 73; refine (HT.out.getMI key 72057594037927935 72057594037927935 rfl Hg.out (HT.out.keep HIj.out HX5.out) HB5.out).mono ?_; rintro r w6 ⟨x6, rfl, hx6, hb6⟩; obtain ⟨Z6, n6, c6, rfl⟩ := hb6.form0; have HX6 := Lib.hid (HX5.out.ext hx6); have HB6 := Lib.hid hb6; have HB5b := Lib.hid (HB5.out.ext hx6); clear hx6 hb6)
                    | (go_at_call 94; refine (HT.out.getXI key 72057594037927935 72057594037927935 rfl Hg.out (HT.out.keep HIj.out HX6.out) HB5b.out).mono ?_; rintro r w7 ⟨x7, rfl, hx7, hb7⟩; obtain ⟨Z7, n7, c7, rfl⟩ := hb7.form0; have HX7 := Lib.hid (HX6.out.ext hx7); have HB7 := Lib.hid hb7; have HB6b := Lib.hid (HB6.out.ext hx7); clear hx7 hb7)
                    | (go_at_call 74; refine (r1_same _ HB6b.out HB7.out).mono ?_; rw [beq_self_list]; rintro r w8 ⟨rfl, rfl⟩))
                  go_roundw
                  case rel => exact ⟨j + 1, by omega, by go_num, HXj.out.ext HX7.out⟩
                  case measure => simp [intOf] <;> omega
              · go_wp2
                go_ret
                exact ⟨rfl, HX12.out.ext HXj.out⟩
end Go.Proofs.Yteaanagljmcidaa
