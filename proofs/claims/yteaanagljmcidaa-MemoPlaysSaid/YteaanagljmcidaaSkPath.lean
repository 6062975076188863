/- skip: path. -/
import Derived.Test.YteaanagljmcidaaSkWalk
import Derived.Deep.LoopGhost
namespace Go.Proofs.Yteaanagljmcidaa
open Go.RowKit

theorem sk_ahead' (w : World) {Foot F : Nat → Prop} {L : Nat} {v : Value} {ts : List Tw} {size : Int} (h : Sk w Foot L v ts size) (i r : Nat) (hi : i < ts.length) (hr : r < hgt ts i) (hn : nxt ts r i < ts.length)
    {u : Value} (k : Key) (hu : Bs w F u k.user) (b : Bool) (hb : decide (nxt ts r i ≠ 0 ∧ kcmp (keyAt ts (nxt ts r i)) k < 0) = b) :
    Calls Try.prog 148 #[.pointer (some ⟨L, 0, none⟩), .int .i64 i, .int .i64 r, .agg #[u, u64V k.seq, byteV k.kind]] w fun e w' => e = .returned (.bool b) ∧ Ext w w' := by
  rw [← hb]; exact sk_ahead w h i r hi hr hn k hu

/-- What holds on the way: the boxes of 'path' and the list. -/
structure PathR (w wr : World) (Foot F : Nat → Prop) (L : Nat) (v : Value) (ts : List Tw) (size : Int) (u : Value) (k : Key) (ord : List Nat) (r : Nat) : Prop where
  ext : Ext w wr
  sk : Sk wr Foot L v ts size
  bs : Bs wr F u k.user
  box : wr.heap[w.heap.size]? = some (.cells #[u, u64V k.seq, byteV k.kind] 30)
  res : wr.heap[w.heap.size + 1]? = some (.cells #[.int .i64 0, .int .i64 0, .int .i64 0, .int .i64 0, .int .i64 0, .int .i64 0, .int .i64 0, .int .i64 0] 148)
  out : ∃ arr : List Nat, arr.length = 8 ∧ (∀ j, r ≤ j → j < 8 → arr[j]? = some (pathAt ts ord k j)) ∧ wr.heap[w.heap.size + 1 + 1]? = some (.cells (nxV arr) 148)

variable {w wr w1 : World} {Foot F : Nat → Prop} {L : Nat} {v : Value} {ts : List Tw} {size : Int} {u : Value} {k : Key} {ord : List Nat} {r : Nat}

theorem PathR.step (h : PathR w wr Foot F L v ts size u k ord r) (hx : Ext wr w1) : PathR w w1 Foot F L v ts size u k ord r where
  ext := h.ext.ext hx
  sk := h.sk.ext hx
  bs := h.bs.ext hx
  box := hx.blk h.box (fun f => f)
  res := hx.blk h.res (fun f => f)
  out := let ⟨arr, h1, h2, h3⟩ := h.out; ⟨arr, h1, h2, hx.blk h3 (fun f => f)⟩

theorem nxV_set (l : List Nat) (i n : Nat) : (nxV l).setIfInBounds i (.int .i64 (n : Int)) = nxV (l.set i n) := by
  simp [nxV, List.map_set]

theorem PathR.store (h : PathR w wr Foot F L v ts size u k ord (r + 1)) (hF : ∀ b, Foot b → b < w.heap.size) (hF' : ∀ b, F b → b < w.heap.size) (hr : r < 8) :
    PathR w (wr.setCell ⟨w.heap.size + 1 + 1, r, none⟩ (.int .i64 (pathAt ts ord k r : Nat))) Foot F L v ts size u k ord r := by
  have ho : Out (fun b => b = w.heap.size + 1 + 1) wr (wr.setCell ⟨w.heap.size + 1 + 1, r, none⟩ (.int .i64 (pathAt ts ord k r : Nat))) := Out.setCell (S := fun b => b = w.heap.size + 1 + 1) (p := ⟨w.heap.size + 1 + 1, r, none⟩) (Out.refl _ wr) (fun _ => rfl) _
  refine ⟨h.ext.setCell (by simp; omega) _, h.sk.frame ho (fun b _ hb => by have := hF b hb; omega), h.bs.out ho (fun b _ hb => by have := hF' b hb; omega), ho.blk h.box (by omega), ho.blk h.res (by omega), ?_⟩
  obtain ⟨arr, h1, h2, h3⟩ := h.out
  refine ⟨arr.set r (pathAt ts ord k r), by simpa using h1, fun j hj hj8 => ?_, ?_⟩
  · by_cases e : j = r
    · subst e; rw [List.getElem?_set_self (by omega)]
    · rw [List.getElem?_set_ne (by omega)]; exact h2 j (by omega) hj8
  · have := blk_set h3 r (.int .i64 (pathAt ts ord k r : Nat))
    rwa [nxV_set] at this

theorem cells8 {w : World} {g : Nat} {a b c d e f i j : Value} {t : TypeId} (h : w.heap[g]? = some (.cells #[a, b, c, d, e, f, i, j] t)) :
    w.cell? ⟨g, 0, none⟩ = some a ∧ w.cell? ⟨g, 1, none⟩ = some b ∧ w.cell? ⟨g, 2, none⟩ = some c ∧ w.cell? ⟨g, 3, none⟩ = some d ∧ w.cell? ⟨g, 4, none⟩ = some e ∧ w.cell? ⟨g, 5, none⟩ = some f ∧ w.cell? ⟨g, 6, none⟩ = some i ∧ w.cell? ⟨g, 7, none⟩ = some j ∧ (∀ i, w.frozen? ⟨g, i, none⟩ = false) :=
  ⟨blk_cell h 0, blk_cell h 1, blk_cell h 2, blk_cell h 3, blk_cell h 4, blk_cell h 5, blk_cell h 6, blk_cell h 7, blk_free h⟩
theorem blk_set8 {w : World} {g : Nat} {a b c d e f i j : Value} {t : TypeId} (h : w.heap[g]? = some (.cells #[a, b, c, d, e, f, i, j] t)) (p0 p1 p2 p3 p4 p5 p6 p7 : Value) :
    ((((((((w.setCell ⟨g, 0, none⟩ p0).setCell ⟨g, 1, none⟩ p1).setCell ⟨g, 2, none⟩ p2).setCell ⟨g, 3, none⟩ p3).setCell ⟨g, 4, none⟩ p4).setCell ⟨g, 5, none⟩ p5).setCell ⟨g, 6, none⟩ p6).setCell ⟨g, 7, none⟩ p7).heap[g]? = some (.cells #[p0, p1, p2, p3, p4, p5, p6, p7] t) := by
  have := blk_set (blk_set (blk_set (blk_set (blk_set (blk_set (blk_set (blk_set h 0 p0) 1 p1) 2 p2) 3 p3) 4 p4) 5 p5) 6 p6) 7 p7
  simpa using this
theorem out_set8 {S : Nat → Prop} {w w' : World} (h : Out S w w') {g : Nat} (hg : g < w.heap.size → S g) (p0 p1 p2 p3 p4 p5 p6 p7 : Value) :
    Out S w ((((((((w'.setCell ⟨g, 0, none⟩ p0).setCell ⟨g, 1, none⟩ p1).setCell ⟨g, 2, none⟩ p2).setCell ⟨g, 3, none⟩ p3).setCell ⟨g, 4, none⟩ p4).setCell ⟨g, 5, none⟩ p5).setCell ⟨g, 6, none⟩ p6).setCell ⟨g, 7, none⟩ p7) :=
  (((((((h.setCell hg p0).setCell hg p1).setCell hg p2).setCell hg p3).setCell hg p4).setCell hg p5).setCell hg p6).setCell hg p7

theorem PathR.slot (h : PathR w wr Foot F L v ts size u k ord r) (q : Nat) (hq : q < 8) : ∃ x, wr.cell? ⟨w.heap.size + 1 + 1, q, none⟩ = some x ∧ wr.frozen? ⟨w.heap.size + 1 + 1, q, none⟩ = false := by
  obtain ⟨arr, h1, _, h3⟩ := h.out
  exact ⟨_, by rw [blk_cell h3]; simp [nxV, h1, hq]; exact rfl, blk_free h3 q⟩

abbrev nV (n : Nat) : Value := .int .i64 (n : Int)

theorem PathR.done (h : PathR w wr Foot F L v ts size u k ord 0) :
    wr.heap[w.heap.size + 1 + 1]? = some (.cells #[nV (pathAt ts ord k 0), nV (pathAt ts ord k 1), nV (pathAt ts ord k 2), nV (pathAt ts ord k 3), nV (pathAt ts ord k 4), nV (pathAt ts ord k 5), nV (pathAt ts ord k 6), nV (pathAt ts ord k 7)] 148) := by
  obtain ⟨arr, h1, h2, h3⟩ := h.out
  have e : arr = (List.range 8).map (pathAt ts ord k) := by
    apply List.ext_getElem?
    intro i
    by_cases hi : i < 8
    · rw [h2 i (Nat.zero_le _) hi]; simp [hi]
    · rw [List.getElem?_eq_none (by omega), List.getElem?_eq_none (by simp; omega)]
  rw [e] at h3
  exact h3

set_option maxRecDepth 100000 in
set_option maxHeartbeats 2000000 in
theorem sk_path (w : World) (h : Sk w Foot L v ts size) (hg : Good ts ord) (hF : ∀ b, Foot b → b < w.heap.size) (hF' : ∀ b, F b → b < w.heap.size) (hu : Bs w F u k.user) :
    Calls Try.prog 97 #[.pointer (some ⟨L, 0, none⟩), .agg #[u, u64V k.seq, byteV k.kind]] w fun e w' => e = .returned (.agg (nxV ((List.range 8).map (pathAt ts ord k)))) ∧ Ext w w' := by
  obtain ⟨R, cap, rfl⟩ := h.arena
  obtain ⟨U, N, c, rfl⟩ := hu.form0
  have hsm := h.small
  have h0 : PathR w (((w.alloc (.cells #[.slice U N c, u64V k.seq, byteV k.kind] 30)).alloc (.cells #[.int .i64 0, .int .i64 0, .int .i64 0, .int .i64 0, .int .i64 0, .int .i64 0, .int .i64 0, .int .i64 0] 148)).alloc (.cells #[.int .i64 0, .int .i64 0, .int .i64 0, .int .i64 0, .int .i64 0, .int .i64 0, .int .i64 0, .int .i64 0] 148)) Foot F L (.slice (some ⟨R, 0, none⟩) ts.length cap) ts size (.slice U N c) k ord 8 := by
    have hx : Ext w (((w.alloc (.cells #[.slice U N c, u64V k.seq, byteV k.kind] 30)).alloc (.cells #[.int .i64 0, .int .i64 0, .int .i64 0, .int .i64 0, .int .i64 0, .int .i64 0, .int .i64 0, .int .i64 0] 148)).alloc (.cells #[.int .i64 0, .int .i64 0, .int .i64 0, .int .i64 0, .int .i64 0, .int .i64 0, .int .i64 0, .int .i64 0] 148)) := (((Out.refl _ w).alloc _).alloc _).alloc _
    exact ⟨hx, h.ext hx, hu.ext hx, blk_alloc (blk_alloc (blk_new _ _) _) _, blk_alloc (blk_at (by simp)) _, ⟨[0, 0, 0, 0, 0, 0, 0, 0], rfl, fun j h1 h2 => by omega, blk_at (by simp)⟩⟩
  have H0 := Lib.hid h0
  have HG := Lib.hid hg
  have HF := Lib.hid hF
  have HF' := Lib.hid hF'
  clear h h0 hg hu hF hF'
  go_enter Try.func97, Try.ntmps97
  go_wp2
  go_loopw [6, 7] (fun a b wr => ∃ r at_ : Nat, r ≤ 8 ∧ b = .int .i64 ((r : Int) - 1) ∧ a = .int .i64 at_ ∧ (∀ q, r = q + 1 → ∃ left, OnWay ts ord k q at_ left) ∧ PathR w wr Foot F L (.slice (some ⟨R, 0, none⟩) ts.length cap) ts size (.slice U N c) k ord r) (fun _ b _ => (intOf b + 1).toNat)
  case atStart => exact ⟨8, 0, by omega, rfl, rfl, fun q hq => by obtain rfl : q = 7 := by omega
                                                                  exact ⟨_, OnWay.start⟩, H0.out⟩
  case round =>
    obtain ⟨r, at_, hr, rfl, rfl, hway, hP⟩ := hrel
    rcases Nat.eq_zero_or_pos r with h0 | h0
    · subst h0
      have HP := Lib.hid hP
      clear hP hway
      obtain ⟨d0, d1, d2, d3, d4, d5, d6, d7, -⟩ := cells8 HP.out.done
      obtain ⟨e0, e1, e2, e3, e4, e5, e6, e7, ef⟩ := cells8 HP.out.res
      obtain ⟨f0, f1, f2, f3, f4, f5, f6, f7, -⟩ := cells8 (blk_set8 HP.out.res (nV (pathAt ts ord k 0)) (nV (pathAt ts ord k 1)) (nV (pathAt ts ord k 2)) (nV (pathAt ts ord k 3)) (nV (pathAt ts ord k 4)) (nV (pathAt ts ord k 5)) (nV (pathAt ts ord k 6)) (nV (pathAt ts ord k 7)))
      have ho := Lib.hid (out_set8 HP.out.ext (g := w.heap.size + 1) (by omega) (nV (pathAt ts ord k 0)) (nV (pathAt ts ord k 1)) (nV (pathAt ts ord k 2)) (nV (pathAt ts ord k 3)) (nV (pathAt ts ord k 4)) (nV (pathAt ts ord k 5)) (nV (pathAt ts ord k 6)) (nV (pathAt ts ord k 7)))
      go_wp2
      refine bodyPost_ret (v := .agg #[nV (pathAt ts ord k 0), nV (pathAt ts ord k 1), nV (pathAt ts ord k 2), nV (pathAt ts ord k 3), nV (pathAt ts ord k 4), nV (pathAt ts ord k 5), nV (pathAt ts ord k 6), nV (pathAt ts ord k 7)]) (by simp [results, Try.results97, go_sem, f0, f1, f2, f3, f4, f5, f6, f7]) rfl ⟨rfl, ho.out⟩
    · obtain ⟨q, rfl⟩ : ∃ q, r = q + 1 := ⟨r - 1, by omega⟩
      obtain ⟨left, hw⟩ := hway q rfl
      have hq : q < 8 := by omega
      have e : ((q + 1 : Nat) : Int) - 1 = (q : Int) := by omega
      rw [e]
      clear hway e
      have HP := Lib.hid hP
      clear hP h0 hr
      go_wp2
      go_loopg [6] left.length (fun g a wr => ∃ (at_ : Nat) (left : List Nat), g = left.length ∧ a = .int .i64 at_ ∧ OnWay ts ord k q at_ left ∧ PathR w wr Foot F L (.slice (some ⟨R, 0, none⟩) ts.length cap) ts size (.slice U N c) k ord (q + 1))
      case atStart => exact ⟨at_, left, rfl, rfl, hw, HP.out⟩
      case round =>
        obtain ⟨at_, left, rfl, rfl, hw, hP⟩ := hrel
        obtain ⟨hv1, hv2⟩ := hw.valid HG.out hq
        have hv3 := HG.out.nxt_lt hq hw
        have hT := hw.test HG.out hq
        obtain ⟨z0, z1, z2, -⟩ := cells3 hP.box
        have HT := Lib.hid hT
        have HW := Lib.hid hw
        have HP := Lib.hid hP
        clear hT hw hP
        cases left with
        | nil =>
          have hb : decide (nxt ts q at_ ≠ 0 ∧ kcmp (keyAt ts (nxt ts q at_)) k < 0) = false := by rw [decide_eq_false_iff_not, HT.out]; simp
          have Hb := Lib.hid hb
          have Hlast := Lib.hid HW.out.last
          clear hb
          go_wp2_with (go_at_call 148; refine (sk_ahead' _ HP.out.sk at_ q hv1 hv2 hv3 k HP.out.bs false Hb.out).mono ?_; rintro e w1 ⟨rfl, hx1⟩; have HP1 := Lib.hid (HP.out.step hx1); obtain ⟨y1, y2, y3⟩ := HP1.out.slot q hq)
          refine ⟨⟨q, at_, by omega, rfl, rfl, fun q' hq' => ?_, ?_⟩, by simp [intOf]⟩
          · have h2 := HW.out
            rw [hq'] at h2
            exact h2.down
          · have h2 := HP1.out.store HF.out HF'.out hq
            rw [← Hlast.out] at h2
            exact h2
        | cons x left =>
          have hb : decide (nxt ts q at_ ≠ 0 ∧ kcmp (keyAt ts (nxt ts q at_)) k < 0) = true := by rw [decide_eq_true_iff, HT.out]; simp
          have Hb := Lib.hid hb
          clear hb
          go_wp2_with (go_at_call 148; refine (sk_ahead' _ HP.out.sk at_ q hv1 hv2 hv3 k HP.out.bs true Hb.out).mono ?_; rintro e w1 ⟨rfl, hx1⟩; have HP1 := Lib.hid (HP.out.step hx1); obtain ⟨l0, l1, -⟩ := HP1.out.sk.cells; obtain ⟨x', y', a0, a1, a2, a3, a4, -, -⟩ := HP1.out.sk.tower at_ hv1; have n0 := HP1.out.sk.nxCell at_ hv1 q (by rw [← hgt_get hv1]; exact hv2); rw [← nxt_get hv1 (by rw [← hgt_get hv1]; exact hv2)] at n0; have hq2 : q < ts[at_].nx.length := by rw [← hgt_get hv1]; exact hv2)
          go_roundg left.length
          case measure => simp
          case rel => exact ⟨x, left, rfl, by rw [HW.out.next HG.out hq]; rfl, HW.out.cons, HP1.out⟩
end Go.Proofs.Yteaanagljmcidaa
