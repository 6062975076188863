/- skip: Insert, a version that is there. -/
import Derived.Test.YteaanagljmcidaaSkInsA
import Derived.Deep.DeepCutAuto
namespace Go.Proofs.Yteaanagljmcidaa
open Go.RowKit

attribute [local go_sem ↓] Go.wp_at_zero Go.wp_at_succ

variable {w wr w1 : World} {Foot F : Nat → Prop} {L : Nat} {v : Value} {ts : List Tw} {size : Int} {u x : Value} {e : Ent} {ord : List Nat}

/-- Of the first that isn't ahead: is it the version? -/
theorem exists_iff (hg : Good ts ord) (k : Key) : (nxt ts 0 (pathAt ts ord k 0) ≠ 0 ∧ kcmp (keyAt ts (nxt ts 0 (pathAt ts ord k 0))) k = 0) ↔ ∃ i ∈ ord, keyAt ts i = k := by
  have hw : OnWay ts ord k 0 (pathAt ts ord k 0) [] := OnWay.end_ ts ord k 0
  have hn := hw.next hg (by omega)
  have hm : ∀ i ∈ behind ts ord k, i ∈ ord := fun i hi => (mem_behind.1 hi).1
  rw [good_chain0 hg hm, List.nil_append] at hn
  rw [hn]
  have hs := hg.sorted
  constructor
  · intro ⟨h1, h2⟩
    cases hb : behind ts ord k with
    | nil => rw [hb] at h1; simp at h1
    | cons a l =>
      rw [hb] at h2
      exact ⟨a, hm a (by rw [hb]; simp), kcmp_zero.1 h2⟩
  · intro ⟨i, hi, he⟩
    have hib : i ∈ behind ts ord k := mem_behind.2 ⟨hi, by rw [he]; exact kcmp_irrefl k⟩
    cases hb : behind ts ord k with
    | nil => rw [hb] at hib; simp at hib
    | cons a l =>
      have ha : a ∈ behind ts ord k := by rw [hb]; simp
      have ha' := mem_behind.1 ha
      have h0 := ((hg.mem a).1 ha'.1).1
      simp only [List.headD_cons]
      refine ⟨by omega, ?_⟩
      rw [hb] at hib
      rcases List.mem_cons.1 hib with rfl | hl
      · rw [kcmp_zero]; exact he
      · have hp : (behind ts ord k).Pairwise fun i j => kcmp (keyAt ts i) (keyAt ts j) < 0 := hs.filter _
        rw [hb, List.pairwise_cons] at hp
        have := hp.1 i hl
        rw [he] at this
        exact absurd this ha'.2

set_option maxRecDepth 100000 in
set_option maxHeartbeats 2000000 in
theorem ins_exists (h : Sk w Foot L v ts size) (hg : Good ts ord) (hF : ∀ b, Foot b → b < w.heap.size) (hF' : ∀ b, F b → b < w.heap.size) (hu : Bs w F u e.key.user) (hx : Bs w F x e.value) (ht : Int) (hc : icheck e.key = 0) (h1 : 1 ≤ ht) (h2 : ht ≤ 8) (hl : e.value.length ≤ 512)
    (hex : ∃ i ∈ ord, keyAt ts i = e.key) :
    Calls Try.prog 28 #[.pointer (some ⟨L, 0, none⟩), .agg #[u, u64V e.key.seq, byteV e.key.kind, x], .int .i64 ht] w fun r w' => r = .returned (.int .i64 7) ∧ Ext w w' := by
  obtain ⟨U, N, c, rfl⟩ := hu.form0
  obtain ⟨X, d, rfl, _⟩ := hx.form
  obtain ⟨R, cap, rfl⟩ := h.arena
  have hsm := h.small
  have h0 := Lib.hid (InsA.start h hu hx)
  obtain ⟨b0, b1, b2, b3, -⟩ := cells4 h0.out.box
  have HC := Lib.hid hc
  have hw := OnWay.end_ ts ord e.key 0
  obtain ⟨hv1, hv2⟩ := hw.valid hg (by omega)
  have hv3 := hg.nxt_lt (by omega) hw
  rw [hgt_get hv1] at hv2
  obtain ⟨hn0, hn1⟩ := (exists_iff hg e.key).2 hex
  have HP := Lib.hid (path_lit (pathAt ts ord e.key))
  have HG := Lib.hid hg
  have HF := Lib.hid hF
  have HF' := Lib.hid hF'
  have hnx := nxt_get hv1 hv2
  generalize hpa : pathAt ts ord e.key 0 = pa at *
  generalize nxt ts 0 pa = n at *
  rw [keyAt_get hv3] at hn1
  have hN : ((n : Int) != 0) = true := by simp; omega
  have hE : (kcmp ts[n].e.key e.key == 0) = true := by rw [hn1]; rfl
  have Hnx := Lib.hid hnx
  clear h hg hF hF' hu hx hc hex hw hpa hn0 hn1 hnx
  go_enter Try.func28, Try.ntmps28
  go_wp2_with (first | (go_at_call 96; refine (key_check _ e.key h0.out.bu 0 HC.out).mono ?_; rintro r w1 ⟨rfl, hx1⟩; have i1 := Lib.hid (h0.out.step hx1); obtain ⟨c0, c1, c2, c3, -⟩ := cells4 i1.out.box) | (go_at_call 97; refine (sk_path _ i1.out.sk HG.out (fun b hb => Nat.lt_of_lt_of_le (HF.out b hb) i1.out.ext.size) (fun b hb => Nat.lt_of_lt_of_le (HF'.out b hb) i1.out.ext.size) i1.out.bu).mono ?_; rw [HP.out]; rintro r w2 ⟨rfl, hx2⟩; have i2 := Lib.hid (i1.out.step hx2); have i3 := Lib.hid (i2.out.step (Ext.alloc1 w2 (.cells #[nV pa, nV (pathAt ts ord e.key 1), nV (pathAt ts ord e.key 2), nV (pathAt ts ord e.key 3), nV (pathAt ts ord e.key 4), nV (pathAt ts ord e.key 5), nV (pathAt ts ord e.key 6), nV (pathAt ts ord e.key 7)] 148))); obtain ⟨l0, l1, -⟩ := i3.out.sk.cells; obtain ⟨p0, p1, -, -, -, -, a4, -, -⟩ := i3.out.sk.tower pa hv1; have n0 := i3.out.sk.nxCell pa hv1 0 hv2; rw [← Hnx.out] at n0; obtain ⟨e0, e1, e2, e3, -⟩ := cells4 i3.out.box; obtain ⟨q0, q1, t0, t1, t2, -, -, q2, -⟩ := i3.out.sk.tower n hv3; have Q2 := Lib.hid q2; clear q2))
  go_quiet (fail)
  go_wp2
  go_region_held3 (fun w' => w'.cell? ⟨L, 0, none⟩ = some (.slice (some ⟨R, 0, none⟩) ts.length cap) ∧ w'.cell? ⟨R, n * 5, none⟩ = some q0 ∧ w'.cell? ⟨R, n * 5 + 1, none⟩ = some (u64V ts[n].e.key.seq) ∧ w'.cell? ⟨R, n * 5 + 2, none⟩ = some (byteV ts[n].e.key.kind) ∧ w'.cell? ⟨w.heap.size, 0, none⟩ = some (.slice U N c) ∧ w'.cell? ⟨w.heap.size, 1, none⟩ = some (u64V e.key.seq) ∧ w'.cell? ⟨w.heap.size, 2, none⟩ = some (byteV e.key.kind)) (first | (exact ⟨hx3.cell l0 (fun f => f), hx3.cell t0 (fun f => f), hx3.cell t1 (fun f => f), hx3.cell t2 (fun f => f), hx3.cell e0 (fun f => f), hx3.cell e1 (fun f => f), hx3.cell e2 (fun f => f)⟩) | go_keep)
    (first | (go_at_call 98; refine (ikey_compare _ ts[n].e.key e.key (Q2.out.drewN _) (i3.out.bu.drewN _)).mono ?_; rintro r w3 ⟨rfl, hx3⟩))
  go_wp2
  go_ret
  exact ⟨rfl, (i3.out.ext.drewN _).ext hx3⟩
end Go.Proofs.Yteaanagljmcidaa
