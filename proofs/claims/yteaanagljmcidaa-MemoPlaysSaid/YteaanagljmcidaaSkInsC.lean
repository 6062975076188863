/- skip: Insert, a new version. -/
import Derived.Test.YteaanagljmcidaaSkInsL
import Derived.Deep.RegionLaw
namespace Go.Proofs.Yteaanagljmcidaa
open Go.RowKit

attribute [local go_sem ↓] Go.wp_at_zero Go.wp_at_succ

variable {w wr w1 : World} {Foot F : Nat → Prop} {L : Nat} {v : Value} {ts : List Tw} {size : Int} {u x : Value} {e : Ent} {ord : List Nat}

theorem make_next (h : Nat) (h1 : 1 ≤ h) (h8 : h ≤ 8) (w : World) : (Instr.makeSlice 54 (.int .i64 (h : Int)) (.int .i64 (h : Int))).run Try.prog w = .ok (.slice (some ⟨w.heap.size, 0, none⟩) h h) (w.alloc (.cells (nxV (List.replicate h 0)) 3)) := by
  have : h = 1 ∨ h = 2 ∨ h = 3 ∨ h = 4 ∨ h = 5 ∨ h = 6 ∨ h = 7 ∨ h = 8 := by omega
  have k1 : ∀ w, (Instr.makeSlice 54 (.int .i64 1) (.int .i64 1)).run Try.prog w = .ok (.slice (some ⟨w.heap.size, 0, none⟩) 1 1) (w.alloc (.cells (nxV (List.replicate 1 0)) 3)) := fun _ => by kernel_rfl
  have k2 : ∀ w, (Instr.makeSlice 54 (.int .i64 2) (.int .i64 2)).run Try.prog w = .ok (.slice (some ⟨w.heap.size, 0, none⟩) 2 2) (w.alloc (.cells (nxV (List.replicate 2 0)) 3)) := fun _ => by kernel_rfl
  have k3 : ∀ w, (Instr.makeSlice 54 (.int .i64 3) (.int .i64 3)).run Try.prog w = .ok (.slice (some ⟨w.heap.size, 0, none⟩) 3 3) (w.alloc (.cells (nxV (List.replicate 3 0)) 3)) := fun _ => by kernel_rfl
  have k4 : ∀ w, (Instr.makeSlice 54 (.int .i64 4) (.int .i64 4)).run Try.prog w = .ok (.slice (some ⟨w.heap.size, 0, none⟩) 4 4) (w.alloc (.cells (nxV (List.replicate 4 0)) 3)) := fun _ => by kernel_rfl
  have k5 : ∀ w, (Instr.makeSlice 54 (.int .i64 5) (.int .i64 5)).run Try.prog w = .ok (.slice (some ⟨w.heap.size, 0, none⟩) 5 5) (w.alloc (.cells (nxV (List.replicate 5 0)) 3)) := fun _ => by kernel_rfl
  have k6 : ∀ w, (Instr.makeSlice 54 (.int .i64 6) (.int .i64 6)).run Try.prog w = .ok (.slice (some ⟨w.heap.size, 0, none⟩) 6 6) (w.alloc (.cells (nxV (List.replicate 6 0)) 3)) := fun _ => by kernel_rfl
  have k7 : ∀ w, (Instr.makeSlice 54 (.int .i64 7) (.int .i64 7)).run Try.prog w = .ok (.slice (some ⟨w.heap.size, 0, none⟩) 7 7) (w.alloc (.cells (nxV (List.replicate 7 0)) 3)) := fun _ => by kernel_rfl
  have k8 : ∀ w, (Instr.makeSlice 54 (.int .i64 8) (.int .i64 8)).run Try.prog w = .ok (.slice (some ⟨w.heap.size, 0, none⟩) 8 8) (w.alloc (.cells (nxV (List.replicate 8 0)) 3)) := fun _ => by kernel_rfl
  rcases this with rfl | rfl | rfl | rfl | rfl | rfl | rfl | rfl
  · exact k1 w
  · exact k2 w
  · exact k3 w
  · exact k4 w
  · exact k5 w
  · exact k6 w
  · exact k7 w
  · exact k8 w

set_option maxRecDepth 100000 in
set_option maxHeartbeats 4000000 in
theorem ins_new (h : Sk w Foot L v ts size) (hg : Good ts ord) (hF : ∀ b, Foot b → b < w.heap.size) (hF' : ∀ b, F b → b < w.heap.size) (hu : Bs w F u e.key.user) (hx : Bs w F x e.value) (ht : Nat) (hc : icheck e.key = 0) (h1 : 1 ≤ ht) (h2 : ht ≤ 8) (hl : e.value.length ≤ 512)
    (hnew : ∀ i ∈ ord, keyAt ts i ≠ e.key) (hfew : ts.length + 1 < 100000) (hs0 : 0 ≤ size) (hs1 : size ≤ 1000000000000) (hul : e.key.user.length ≤ 1000) :
    Calls Try.prog 28 #[.pointer (some ⟨L, 0, none⟩), .agg #[u, u64V e.key.seq, byteV e.key.kind, x], .int .i64 ht] w fun r w' => r = .returned (.int .i64 0) ∧ Out Foot w w' ∧ ∃ v' T, Sk w' (fun b => Foot b ∨ w.heap.size ≤ b) L v' (insTs ts ord e T ht) (size + (e.key.user.length + e.value.length + 16)) := by
  obtain ⟨U, c, rfl, _, _, huu, _⟩ := hu.form
  obtain ⟨X, d, rfl, _⟩ := hx.form
  obtain ⟨R, cap, rfl⟩ := h.arena
  have hsm := h.small
  have h0 := Lib.hid (InsA.start h hu hx)
  obtain ⟨b0, b1, b2, b3, -⟩ := cells4 h0.out.box
  have HC := Lib.hid hc
  have hw := OnWay.end_ ts ord e.key 0
  obtain ⟨hv1, hv2⟩ := hw.valid hg (by omega)
  have hv3 := hg.nxt_lt (by omega) hw
  rw [hgt_get hv1] at hv2
  have hnot : ¬ (nxt ts 0 (pathAt ts ord e.key 0) ≠ 0 ∧ kcmp (keyAt ts (nxt ts 0 (pathAt ts ord e.key 0))) e.key = 0) := fun hh => by
    obtain ⟨i, hi, he⟩ := (exists_iff hg e.key).1 hh
    exact hnew i hi he
  have HP := Lib.hid (path_lit (pathAt ts ord e.key))
  have HG := Lib.hid hg
  have HF := Lib.hid hF
  have HF' := Lib.hid hF'
  have HNew := Lib.hid hnew
  have hnx := nxt_get hv1 hv2
  have HFew := Lib.hid hfew
  generalize hpa : pathAt ts ord e.key 0 = pa at *
  generalize hnn : nxt ts 0 pa = n at *
  have Hpa := Lib.hid hpa
  have Hnn := Lib.hid hnn
  rw [keyAt_get hv3] at hnot
  have Hnot := Lib.hid hnot
  have Hnx := Lib.hid hnx
  have hmk := make_next ht h1 h2
  have Hmk := Lib.hid hmk
  clear h hg hF hF' hu hx hc hnew hw hpa hnn hnot hnx hmk
  go_enter Try.func28, Try.ntmps28
  go_wp2_with (first | (go_at_call 96; refine (key_check _ e.key h0.out.bu 0 HC.out).mono ?_; rintro r w1 ⟨rfl, hx1⟩; have i1 := Lib.hid (h0.out.step hx1); obtain ⟨c0, c1, c2, c3, -⟩ := cells4 i1.out.box) | (go_at_call 97; refine (sk_path _ i1.out.sk HG.out (fun b hb => Nat.lt_of_lt_of_le (HF.out b hb) i1.out.ext.size) (fun b hb => Nat.lt_of_lt_of_le (HF'.out b hb) i1.out.ext.size) i1.out.bu).mono ?_; rw [HP.out]; rintro r w2 ⟨rfl, hx2⟩; have i2 := Lib.hid (i1.out.step hx2); have i3 := Lib.hid (i2.out.step (Ext.alloc1 w2 (.cells #[nV pa, nV (pathAt ts ord e.key 1), nV (pathAt ts ord e.key 2), nV (pathAt ts ord e.key 3), nV (pathAt ts ord e.key 4), nV (pathAt ts ord e.key 5), nV (pathAt ts ord e.key 6), nV (pathAt ts ord e.key 7)] 148))); obtain ⟨l0, l1, -⟩ := i3.out.sk.cells; obtain ⟨p0, p1, -, -, -, -, a4, -, -⟩ := i3.out.sk.tower pa hv1; have n0 := i3.out.sk.nxCell pa hv1 0 hv2; rw [← Hnx.out] at n0; obtain ⟨e0, e1, e2, e3, -⟩ := cells4 i3.out.box; obtain ⟨q0, q1, t0, t1, t2, -, -, q2, -⟩ := i3.out.sk.tower n hv3; have Q2 := Lib.hid q2; clear q2))
  go_quiet (fail)
  go_wp2
  have hsz2 := Lib.hid (Nat.le_trans hx1.size hx2.size)
  have C3 : Hid (InsC w (w2.alloc (.cells #[nV pa, nV (pathAt ts ord e.key 1), nV (pathAt ts ord e.key 2), nV (pathAt ts ord e.key 3), nV (pathAt ts ord e.key 4), nV (pathAt ts ord e.key 5), nV (pathAt ts ord e.key 6), nV (pathAt ts ord e.key 7)] 148)) Foot F L (.slice (some ⟨R, 0, none⟩) ts.length cap) ts size (.slice U e.key.user.length c) (.slice X e.value.length d) e ord w2.heap.size) := Lib.hid { i3.out with pos := by have := hsz2.out; simp at this; omega, path := by unfold pathV; rw [Hpa.out]; exact blk_new _ _ }
  go_cut [62] (fun s62 wx => s62 = .bool false ∧ InsC w wx Foot F L (.slice (some ⟨R, 0, none⟩) ts.length cap) ts size (.slice U e.key.user.length c) (.slice X e.value.length d) e ord w2.heap.size)
  case first =>
    by_cases hn : n = 0
    · have hN : ((n : Int) != 0) = false := by simp [hn]
      clear hn
      go_quiet (fail)
      go_wp2
      go_meet
      exact ⟨rfl, C3.out.step (((Out.refl _ _).drewN _).drewN _)⟩
    · have hN : ((n : Int) != 0) = true := by simp; omega
      have hE : (kcmp ts[n].e.key e.key == 0) = false := by rw [beq_eq_false_iff_ne]; exact fun hh => Hnot.out ⟨hn, hh⟩
      clear hn
      go_region_held3 (fun w' => w'.cell? ⟨L, 0, none⟩ = some (.slice (some ⟨R, 0, none⟩) ts.length cap) ∧ w'.cell? ⟨R, n * 5, none⟩ = some q0 ∧ w'.cell? ⟨R, n * 5 + 1, none⟩ = some (u64V ts[n].e.key.seq) ∧ w'.cell? ⟨R, n * 5 + 2, none⟩ = some (byteV ts[n].e.key.kind) ∧ w'.cell? ⟨w.heap.size, 0, none⟩ = some (.slice U e.key.user.length c) ∧ w'.cell? ⟨w.heap.size, 1, none⟩ = some (u64V e.key.seq) ∧ w'.cell? ⟨w.heap.size, 2, none⟩ = some (byteV e.key.kind)) (first | (exact ⟨hx3.cell l0 (fun f => f), hx3.cell t0 (fun f => f), hx3.cell t1 (fun f => f), hx3.cell t2 (fun f => f), hx3.cell e0 (fun f => f), hx3.cell e1 (fun f => f), hx3.cell e2 (fun f => f)⟩) | go_keep)
        (first | (go_at_call 98; refine (ikey_compare _ ts[n].e.key e.key (Q2.out.drewN _) (i3.out.bu.drewN _)).mono ?_; rintro r w3 ⟨rfl, hx3⟩))
      go_wp2
      go_meet
      exact ⟨rfl, (C3.out.step (Out.refl _ _ |>.drewN _)).step hx3⟩
  case rest =>
    obtain ⟨rfl, hC⟩ := hcut
    have hC := Lib.hid hC
    obtain ⟨e0', e1', e2', e3', -⟩ := cells4 hC.out.box
    have hmk := Hmk.out
    have hbl := blk_lt hC.out.box
    go_wp2
    go_cut [10] (fun s10 wx => ∃ (tb T : Nat) (u' x' : Value), s10 = .pointer (some ⟨tb, 0, none⟩) ∧ InsD w wx Foot F L (.slice (some ⟨R, 0, none⟩) ts.length cap) ts size (.slice U e.key.user.length c) (.slice X e.value.length d) e ord w2.heap.size tb T u' x' (List.replicate ht 0))
    case first =>
      go_region_law (first | (go_simp; go_at_call 99; refine (skip_copyOf _ e (hC.out.bu.ext (by repeat' (first | exact Out.refl _ _ | refine Out.drew ?_ | refine Out.drewN ?_ _ | refine Out.alloc ?_ _))) (hC.out.bx.ext (by repeat' (first | exact Out.refl _ _ | refine Out.drew ?_ | refine Out.drewN ?_ _ | refine Out.alloc ?_ _)))).mono ?_; rintro r w4 ⟨u', x', rfl, hx4, hb1, hb2⟩; obtain ⟨A1, k1, m1, rfl⟩ := hb1.form0; obtain ⟨A2, k2, m2, rfl⟩ := hb2.form0; first | (have jb := hx4.blk (o := Obj.cells #[Value.slice none 0 0, Value.int IntKind.u64 0, Value.int IntKind.u8 0, Value.slice none 0 0, Value.slice none 0 0] 143) (blk_atD rfl) (fun f => f); (try simp only [World.size_alloc] at jb); obtain ⟨j0, j1, j2, j3, j4, jf⟩ := cells5 jb; obtain ⟨y0, y1, y2, y3, y4, yf⟩ := cells5 (blk_alloc jb (Obj.cells (nxV (List.replicate ht 0)) 3))) | (have jb := hx4.blk (o := Obj.cells #[Value.slice none 0 0, Value.int IntKind.u64 0, Value.int IntKind.u8 0, Value.slice none 0 0, Value.slice none 0 0] 143) (blk_at2D rfl) (fun f => f); (try simp only [World.size_drew, World.size_alloc] at jb); obtain ⟨j0, j1, j2, j3, j4, jf⟩ := cells5 jb; obtain ⟨y0, y1, y2, y3, y4, yf⟩ := cells5 (blk_alloc jb (Obj.cells (nxV (List.replicate ht 0)) 3))) | skip))
      · go_wp2; go_meet; exact ⟨_, _, _, _, rfl, ins_k1 hC.out hx4 hb1 hb2⟩
      · go_wp2; go_meet; exact ⟨_, _, _, _, rfl, ins_k2 hC.out hx4 hb1 hb2⟩
      · go_wp2; go_meet; exact ⟨_, _, _, _, rfl, ins_k3 hC.out hx4 hb1 hb2⟩
      · go_wp2; go_meet; exact ⟨_, _, _, _, rfl, ins_k4 hC.out hx4 hb1 hb2⟩
      · go_wp2; go_meet; exact ⟨_, _, _, _, rfl, ins_k5 hC.out hx4 hb1 hb2⟩
      · go_wp2; go_meet; exact ⟨_, _, _, _, rfl, ins_k6 hC.out hx4 hb1 hb2⟩
      · go_wp2; go_meet; exact ⟨_, _, _, _, rfl, ins_k3 hC.out hx4 hb1 hb2⟩
      · go_wp2; go_meet; exact ⟨_, _, _, _, rfl, ins_k4 hC.out hx4 hb1 hb2⟩
      · go_wp2; go_meet; exact ⟨_, _, _, _, rfl, ins_k4 hC.out hx4 hb1 hb2⟩
      · go_wp2; go_meet; exact ⟨_, _, _, _, rfl, ins_k5 hC.out hx4 hb1 hb2⟩
      · go_wp2; go_meet; exact ⟨_, _, _, _, rfl, ins_k6 hC.out hx4 hb1 hb2⟩
      · go_wp2; go_meet; exact ⟨_, _, _, _, rfl, ins_k6 hC.out hx4 hb1 hb2⟩
    case rest =>
      obtain ⟨tb, T, u', x', rfl, hD⟩ := hcut
      have hL := Lib.hid (hD.toL HF.out)
      obtain ⟨A1, k1, m1, rfl⟩ := hL.out.bu'.form0
      obtain ⟨A2, k2, m2, rfl⟩ := hL.out.bx'.form0
      clear hD e0' e1' e2' e3' hbl hmk
      obtain ⟨l0, l1, -⟩ := hL.out.sk.cells
      go_wp2
      go_loopg [74, 12] ht (fun g s74 s12 wr => ∃ r : Nat, r ≤ ht ∧ g = ht - r ∧ s74 = .int .i64 r ∧ InsL w wr Foot L (.slice (some ⟨R, 0, none⟩) ts.length cap) (updTo ts (pathAt ts ord e.key) ts.length r) size (.slice U e.key.user.length c) (.slice X e.value.length d) e w2.heap.size (pathV ts ord e.key) tb T (.slice A1 k1 m1) (.slice A2 k2 m2) (nxR ts ord e.key ht r))
      case atStart => exact ⟨0, Nat.zero_le _, rfl, rfl, by rw [nxR_zero]; exact hL.out⟩
      case round =>
        obtain ⟨r, hr, rfl, rfl, hI⟩ := hrel
        have hlen := updTo_length ts (pathAt ts ord e.key) ts.length r
        have hnl : (nxR ts ord e.key ht r).length = ht := nxR_length
        have hset : (nxR ts ord e.key ht r).set r (nxt ts r (pathAt ts ord e.key r)) = nxR ts ord e.key ht (r + 1) := nxR_set
        have hupd : updTo ts (pathAt ts ord e.key) ts.length (r + 1) = setNx (updTo ts (pathAt ts ord e.key) ts.length r) (pathAt ts ord e.key r) r ts.length := rfl
        have HI := Lib.hid hI
        have Hset := Lib.hid hset
        have Hupd := Lib.hid hupd
        clear hI hset hupd
        by_cases hlt : r < ht
        · obtain ⟨hp, hh, hv⟩ := upd_read HG.out e.key (r := r) (by omega) rfl
          have hpl := hp
          rw [hlen] at hpl
          have hpg := pathV_get ts ord e.key r (by omega)
          generalize updTo ts (pathAt ts ord e.key) ts.length r = tsr at *
          generalize nxR ts ord e.key ht r = nx at *
          generalize pathAt ts ord e.key r = p at *
          generalize nxt ts r p = nn at *
          have hS : Sk wr Foot L (.slice (some ⟨R, 0, none⟩) tsr.length cap) tsr size := by rw [hlen]; exact HI.out.sk
          obtain ⟨l0, l1, -⟩ := HI.out.sk.cells
          obtain ⟨-, -, -, -, -, -, a4, -, -⟩ := hS.tower p hp
          have n0 := hS.nxCell p hp r hh
          rw [hv] at n0
          obtain ⟨Tp, hTp⟩ : ∃ Tp, tsr[p].T = Tp := ⟨_, rfl⟩
          obtain ⟨lp, hlp⟩ : ∃ lp, tsr[p].nx.length = lp := ⟨_, rfl⟩
          rw [hTp, hlp] at a4
          rw [hTp] at n0
          have hhl : r < lp := by rw [← hlp]; exact hh
          have q0 : wr.cell? ⟨w2.heap.size, r, none⟩ = some (nV p) := (blk_cell HI.out.path r).trans hpg
          have q1 : wr.cell? ⟨tb, 4, none⟩ = some (.slice (some ⟨T, 0, none⟩) nx.length nx.length) := blk_cell HI.out.tow 4
          have q2 : wr.cell? ⟨T, r, none⟩ = some (.int .i64 (nx[r]'(by omega) : Nat)) := by rw [blk_cell HI.out.nxt]; simp [nxV, hnl, hlt]
          have q3 : wr.frozen? ⟨T, r, none⟩ = false := blk_free HI.out.nxt r
          have hr8 : (r : Int) < 8 := by omega
          have hnr : r < nx.length := by omega
          have Hv := Lib.hid hv
          have HS := Lib.hid hS
          have Hhp := Lib.hid hp
          have hoT : Out (fun b => b = T) wr (wr.setCell ⟨T, r, none⟩ (.int .i64 (nn : Int))) := (Out.refl (fun b => b = T) wr).setCell (p := ⟨T, r, none⟩) (fun _ => rfl) _
          have hT1 := HI.out.pos
          have hT2 := HI.out.pT
          have hT3 := HI.out.tT
          have hT4 := HI.out.foot L hS.footL
          have hT5 := HI.out.foot R (hS.row R rfl).1
          have hT6 : Tp < w.heap.size := by rw [← hTp]; exact HI.out.foot _ (hS.next _ (List.getElem_mem hp)).1
          have HTp := Lib.hid hTp
          have Hlp := Lib.hid hlp
          have Hhh := Lib.hid hh
          have L2 := Lib.hid (hoT.cell l0 (fun e => by simp at e; omega))
          have Q2 := Lib.hid (hoT.cell q0 (fun e => by simp at e; omega))
          have A2' := Lib.hid (hoT.cell a4 (fun e => by simp at e; omega))
          have N2 := Lib.hid (hoT.cell n0 (fun e => by simp at e; omega))
          have T2 := Lib.hid (hoT.cell q1 hT3)
          clear hv hS hpg hoT hT1 hT2 hT3 hT4 hT5 hT6 hTp hlp
          go_wp2
          go_cut [93] (fun s93 wx => InsL w wx Foot L (.slice (some ⟨R, 0, none⟩) ts.length cap) tsr size (.slice U e.key.user.length c) (.slice X e.value.length d) e w2.heap.size (pathV ts ord e.key) tb T (.slice A1 k1 m1) (.slice A2 k2 m2) (nx.set r nn))
          case first =>
            go_region_held3 (fun w' => w'.cell? ⟨L, 0, none⟩ = some (.slice (some ⟨R, 0, none⟩) ts.length cap) ∧ w'.cell? ⟨w2.heap.size, r, none⟩ = some (nV p) ∧ w'.cell? ⟨R, p * 5 + 4, none⟩ = some (.slice (some ⟨Tp, 0, none⟩) lp lp) ∧ w'.cell? ⟨Tp, r, none⟩ = some (.int .i64 (nn : Int)) ∧ w'.cell? ⟨tb, 4, none⟩ = some (.slice (some ⟨T, 0, none⟩) nx.length nx.length)) (first | exact ⟨L2.out, Q2.out, A2'.out, N2.out, T2.out⟩ | exact L2.out | exact Q2.out | exact A2'.out | exact N2.out | exact T2.out | go_keep) (fail)
            go_wp2
            go_meet
            exact (HI.out.setT r nn).step (Out.refl _ _).drew
          case rest =>
            have HJ := Lib.hid hcut
            have hS2 : Sk wc Foot L (.slice (some ⟨R, 0, none⟩) tsr.length cap) tsr size := by rw [hlen]; exact hcut.sk
            obtain ⟨l0', l1', -⟩ := hcut.sk.cells
            obtain ⟨-, -, -, -, -, -, a4', -, -⟩ := hS2.tower p Hhp.out
            have n0' := hS2.nxCell p Hhp.out r Hhh.out
            have n1' := hS2.nxFree p Hhp.out r
            have hTm := List.getElem_mem Hhp.out
            rw [HTp.out, Hlp.out] at a4'
            rw [HTp.out] at n0' n1'
            have hpr : Foot Tp ∧ Tp ≠ L := by rw [← HTp.out]; exact ⟨(hS2.next _ hTm).1, (hS2.next _ hTm).2.1⟩
            have q0' : wc.cell? ⟨w2.heap.size, r, none⟩ = some (nV p) := by rw [blk_cell HJ.out.path r, ← blk_cell HI.out.path r]; exact q0
            have hoP : Out (fun b => b = Tp) wc (wc.setCell ⟨Tp, r, none⟩ (.int .i64 (ts.length : Int))) := (Out.refl (fun b => b = Tp) wc).setCell (p := ⟨Tp, r, none⟩) (fun _ => rfl) _
            have hfP := HJ.out.foot _ hpr.1
            have hpp := HJ.out.pos
            have L3 := Lib.hid (hoP.cell l0' (fun e => hpr.2 e.symm))
            have Q3 := Lib.hid (hoP.cell q0' (fun e => by simp at e; omega))
            have A3 := Lib.hid (hoP.cell a4' (fun e => (hS2.row R rfl).2 (.inr ⟨_, hTm, by rw [HTp.out]; exact e⟩)))
            clear hcut hS2 hoP hfP hpp hTm hpr
            go_wp2
            go_region_held3 (fun w' => w'.cell? ⟨L, 0, none⟩ = some (.slice (some ⟨R, 0, none⟩) ts.length cap) ∧ w'.cell? ⟨w2.heap.size, r, none⟩ = some (nV p) ∧ w'.cell? ⟨R, p * 5 + 4, none⟩ = some (.slice (some ⟨Tp, 0, none⟩) lp lp)) (first | exact ⟨L3.out, Q3.out, A3.out⟩ | exact L3.out | exact Q3.out | exact A3.out | go_keep) (fail)
            go_wp2
            go_roundg (ht - (r + 1))
            case measure => omega
            case rel =>
              have HP := HJ.out.setP p Hhp.out r ts.length
              rw [HTp.out] at HP
              exact ⟨r + 1, by omega, rfl, by go_num, by rw [Hupd.out, ← Hset.out]; exact HP.step (Out.refl _ _).drew⟩
        · obtain rfl : r = ht := by omega
          clear Hset Hupd hlt hr
          have hfull := nxR_full (ts := ts) (ord := ord) (k := e.key) (ht := r)
          have Hfull := Lib.hid hfull
          clear hfull
          generalize htsr : updTo ts (pathAt ts ord e.key) ts.length r = tsr at *
          have Htsr := Lib.hid htsr
          clear htsr
          generalize nxR ts ord e.key r r = nx at *
          have hsk := HI.out.sk
          obtain ⟨l0, l1, lf⟩ := hsk.cells
          obtain ⟨f0, f1, f2, f3, f4, -⟩ := cells5 HI.out.tow
          have l0a := cell_alloc l0 (.cells #[.slice A1 k1 m1, u64V e.key.seq, byteV e.key.kind, .slice A2 k2 m2, .slice (some ⟨T, 0, none⟩) nx.length nx.length] 143)
          have Hnl := Lib.hid hnl
          clear hnl
          have hroom : (tsr.length + 1) * 88 ≤ 140737488355328 := by have := HFew.out; omega
          have HRoom := Lib.hid hroom
          have hTw : w.heap.size ≤ T := by have h1 := HI.out.pos; have h2 := HI.out.pT; omega
          have HTw := Lib.hid hTw
          have hrowL : ¬ (Value.slice (some ⟨R, 0, none⟩) ts.length cap).ownBlock = some L := fun e => (hsk.row L e).2 (.inl rfl)
          have HRowL := Lib.hid hrowL
          clear hsk hroom hTw hrowL
          go_wp2
          go_cut [115] (fun s115 wx => ∃ A5 k5 m5, Sk wx (fun b => Foot b ∨ w.heap.size ≤ b) L (.slice A5 k5 m5) (tsr ++ [⟨e, T, nx⟩]) size ∧ Out Foot w wx ∧ wx.heap[w.heap.size]? = some (.cells #[.slice U e.key.user.length c, u64V e.key.seq, byteV e.key.kind, .slice X e.value.length d] 32))
          case first =>
            go_region_law (first | (refine step_append_one (by rfl) (.tmp 112) (.tmp 114) 144 (by rfl) fits143 ((HI.out.sk.ownMore HI.out.foot (tw := ⟨e, T, nx⟩) HTw.out).ext (by repeat' (first | exact Out.refl _ _ | refine Out.drew ?_ | refine Out.alloc ?_ _))) (by rfl) (Nat.zero_le _) (blk_atD rfl) (by rfl) ⟨e, T, nx⟩ (HI.out.rep (by repeat' (first | exact Out.refl _ _ | refine Out.drew ?_ | refine Out.alloc ?_ _))) HRoom.out (by decide) ?_; intro v' w' g1 g2 g3; obtain ⟨A5, k5, m5, rfl⟩ := g1.form0; obtain ⟨j0, j1, jf⟩ := cells2 (g2.blk (blk_alloc HI.out.sk.head _) HRowL.out)))
            all_goals
              go_wp2
              go_meet
              exact ⟨A5, k5, m5, (HI.out.sk.ext (by repeat' (first | exact Out.refl _ _ | refine Out.drew ?_ | refine Out.alloc ?_ _))).push HI.out.foot (Nat.le_trans HI.out.out.size (by simp)) g2 HTw.out (blk_alloc HI.out.nxt _) g1 g3 (by have := Htsr.out; rw [← this, updTo_length]; exact HFew.out), ((HI.out.out.ext (by repeat' (first | exact Out.refl _ _ | refine Out.drew ?_ | refine Out.alloc ?_ _))).then g2 (fun i _ e => (HI.out.sk.row i e).1)).setCell (fun _ => HI.out.sk.footL) _, blk_far (g2.blk (blk_alloc HI.out.box _) (fun e => Nat.lt_irrefl _ (HI.out.foot _ (HI.out.sk.row _ e).1))) (fun e => Nat.lt_irrefl _ (HI.out.foot _ (e.symm ▸ HI.out.sk.footL))) _⟩
          case rest =>
            obtain ⟨A5, k5, m5, hS, hO, hB⟩ := hcut
            have HS := Lib.hid hS
            have HO := Lib.hid hO
            obtain ⟨j0, j1, jf⟩ := hS.cells
            obtain ⟨z0, z1, z2, z3, -⟩ := cells4 hB
            clear hS hO hB
            go_wp2
            go_region_law (skip)
            all_goals
              go_wp2
              go_ret
              rw [ins_sum hs0 hs1 hul hl]
              refine ⟨rfl, (HO.out.setCell (p := ⟨L, 1, none⟩) (fun _ => HI.out.sk.footL) _).drew, .slice A5 k5 m5, T, ?_⟩
              unfold insTs
              rw [Htsr.out, ← Hfull.out]
              exact (HS.out.setSize _).ext (Out.refl _ _).drew
end Go.Proofs.Yteaanagljmcidaa
