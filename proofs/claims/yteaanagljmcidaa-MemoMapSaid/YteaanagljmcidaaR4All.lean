/- ref04: ApplyAll, Get. -/
import Derived.Test.YteaanagljmcidaaR4Map
namespace Go.Proofs.Yteaanagljmcidaa
open Go.RowKit

attribute [local go_sem ↓] Go.wp_at_zero Go.wp_at_succ

/-- What a map has of a key. -/
def getP (m : List PairE) (key : List UInt8) : List UInt8 × Bool := match m.find? (fun p => p.key == key) with | none => ([], false) | some p => (p.val, true)
theorem getP_at {m : List PairE} {key : List UInt8} {i : Nat} (hi : i < m.length) (h : ∀ j (_ : j < i) (hj : j < m.length), (m[j].key == key) = false) (he : (m[i].key == key) = true) : getP m key = (m[i].val, true) := by
  have hf : m.find? (fun p => p.key == key) = some m[i] := List.find?_eq_some_iff_getElem.2 ⟨he, i, hi, rfl, fun j hj => by simpa using h j hj (by omega)⟩
  unfold getP
  rw [hf]
theorem getP_no {m : List PairE} {key : List UInt8} (h : ∀ j (_ : j < m.length) (hj : j < m.length), (m[j].key == key) = false) : getP m key = ([], false) := by
  unfold getP
  rw [List.find?_eq_none.2 fun p hp => by
    obtain ⟨j, hj, rfl⟩ := List.getElem_of_mem hp
    simpa using h j hj hj]

set_option maxRecDepth 100000 in
set_option maxHeartbeats 2000000 in
theorem r4_get (w : World) {F G : Nat → Prop} {mv kv : Value} (m : List PairE) (key : List UInt8) (hm : Sl pairC w F mv m) (hk : Bs w G kv key) :
    Calls Try.prog 75 #[mv, kv] w fun e w' => ∃ v, e = .returned (.tuple #[v, .bool (getP m key).2]) ∧ Ext w w' ∧ Bs w' (fun b => w.heap.size ≤ b) v (getP m key).1 := by
  obtain ⟨A, cap, rfl, h1, h2, h3, h4⟩ := hm.form
  have h3 : m.length ≤ 140737488355328 := h3
  obtain ⟨U, N, n, rfl⟩ := hk.form0
  have Hm := Lib.hid hm
  have Hk := Lib.hid hk
  clear h1 h2 h4 hm hk
  go_enter Try.func75, Try.ntmps75
  go_wp2
  go_loopw [10] (fun s10 wr => ∃ i : Nat, i ≤ m.length ∧ s10 = .int .i64 i ∧ Hid (∀ j (_ : j < i) (hj : j < m.length), (m[j].key == key) = false) ∧ Ext w wr) (fun s10 _ => m.length - (intOf s10).toNat)
  case atStart => exact ⟨0, Nat.zero_le _, rfl, Lib.hid fun j hj => absurd hj (by omega), Out.refl _ _⟩
  case round =>
    obtain ⟨wo, rfl⟩ : ∃ x : World, x = wr := ⟨_, rfl⟩
    obtain ⟨i, hi, rfl, Hno, hx⟩ := hrel
    have HX := Lib.hid hx
    clear hx
    by_cases hlt : i < m.length
    · obtain ⟨b1, o1, u1, v1, rfl, -, c0, c1, hu, hv⟩ := (Hm.out.ext HX.out).pair i hlt
      obtain ⟨U1, N1, n1, rfl⟩ := hu.form0
      obtain ⟨V1, M1, m1, rfl⟩ := hv.form0
      have x1 := Ext.alloc1 wo (.cells #[.slice U1 N1 n1, .slice V1 M1 m1] 107)
      obtain ⟨z0, z1, -⟩ := cells2 (blk_new wo (.cells #[.slice U1 N1 n1, .slice V1 M1 m1] 107))
      have HC := r1_same (wo.alloc (.cells #[.slice U1 N1 n1, .slice V1 M1 m1] 107)) (hu.ext x1) ((Hk.out.ext HX.out).ext x1)
      have HV := Lib.hid (hv.ext x1)
      have X1 := Lib.hid (HX.out.ext x1)
      have Hat := Lib.hid fun he => getP_at hlt Hno.out he
      have Hst : Hid ((m[i].key == key) = false → ∀ j (_ : j < i + 1) (hj : j < m.length), (m[j].key == key) = false) := Lib.hid fun he j hj hj' => by
        rcases Nat.lt_or_ge j i with h | h
        · exact Hno.out j h hj'
        · obtain rfl : j = i := by omega
          exact he
      clear hu hv x1
      generalize hq : (m[i].key == key) = q at *
      have HC := Lib.hid HC
      clear hq
      cases q with
      | true =>
        have HG := Lib.hid (Hat.out rfl)
        clear Hat Hst
        go_wp2_with (first
          | (go_at_call 74; refine HC.out.mono ?_; rintro r w1 ⟨rfl, rfl⟩)
          | (go_at_call 80; refine (r1_copy _ HV.out).mono ?_; rintro x w2 ⟨x2, rfl, hx2, hb2⟩; have HX2 := Lib.hid (X1.out.ext hx2); have Hb2 := Lib.hid (hb2.mono (G := fun b => w.heap.size ≤ b) (fun b hb _ => Nat.le_trans X1.out.size hb) (.inl (by decide))); obtain ⟨Z, zn, zc, rfl⟩ := hb2.form0; clear hx2 hb2))
        refine bodyPost_ret (v := .tuple #[.slice Z zn zc, .bool true]) (by simp [results, Try.results75, go_sem]) rfl ?_
        rw [HG.out]
        exact ⟨_, rfl, HX2.out, Hb2.out⟩
      | false =>
        have HS := Lib.hid (Hst.out rfl)
        clear Hat Hst
        go_wp2_with (go_at_call 74; refine HC.out.mono ?_; rintro r w1 ⟨rfl, rfl⟩)
        go_roundw
        case rel => exact ⟨i + 1, by omega, by go_num, HS, X1.out⟩
        case measure => simp [intOf]; omega
    · obtain rfl : i = m.length := by omega
      have HG := Lib.hid (getP_no Hno.out)
      go_wp2
      refine bodyPost_ret (v := .tuple #[.slice none 0 0, .bool false]) (by simp [results, Try.results75, go_sem]) rfl ?_
      rw [HG.out]
      exact ⟨_, rfl, HX.out, Sl.nil _ _ _⟩

theorem applyAllE_take (l : List OpE) (i : Nat) : (applyAllE [] (l.take i)).length ≤ l.length := by
  have h := applyAllE_length (l.take i) []
  rw [List.length_take] at h
  simp at h
  omega

set_option maxRecDepth 100000 in
set_option maxHeartbeats 2000000 in
theorem r4_applyAll (w : World) {F : Nat → Prop} {v : Value} (l : List OpE) (hv : Sl opC w F v l) (hl : l.length ≤ 90000) :
    Calls Try.prog 72 #[.slice none 0 0, v] w fun e w' => ∃ u, e = .returned u ∧ Ext w w' ∧ Sl pairC w' (fun b => b < w'.heap.size) u (applyAllE [] l) := by
  obtain ⟨A, N, n, rfl⟩ := hv.form0
  have Hv := Lib.hid hv
  clear hv
  go_enter Try.func72, Try.ntmps72
  go_wp2_with (go_at_call 133; refine (r4_copy _ l Hv.out (by omega)).mono ?_; rintro r w1 ⟨v1, rfl, hx1, ho1⟩; have HX1 := Lib.hid hx1; have HL1 := Lib.hid (ho1.sl (G := fun b => b < w1.heap.size) (by decide) (by show _ ≤ 140737488355328; omega) (fun _ _ h => h) (fun _ _ h => h)); obtain ⟨A1, c1, rfl, -⟩ := ho1.form; clear hx1 ho1)
  have hsz := HX1.out.size
  go_loopw [0, 10] (fun s0 s10 wr => ∃ i : Nat, i ≤ l.length ∧ s10 = .int .i64 i ∧ Sl pairC wr (fun b => b < wr.heap.size) s0 (applyAllE [] (l.take i)) ∧ Ext w1 wr) (fun _ s10 _ => l.length - (intOf s10).toNat)
  case atStart => exact ⟨0, Nat.zero_le _, rfl, Sl.nil _ _ _, Out.refl _ _⟩
  case round =>
    obtain ⟨wo, rfl⟩ : ∃ x : World, x = wr := ⟨_, rfl⟩
    obtain ⟨i, hi, rfl, hm, hx⟩ := hrel
    obtain ⟨M0, mn, mc, rfl⟩ := hm.form0
    have HX := Lib.hid hx
    have hlen := applyAllE_take l i
    by_cases hlt : i < l.length
    · obtain ⟨b1, o1, u1, v1, rfl, -, c0, c1, c2, hu, hv⟩ := (HL1.out.ext HX.out).op i hlt
      obtain ⟨U1, N1, n1, rfl⟩ := hu.form0
      obtain ⟨V1, M1, m1, rfl⟩ := hv.form0
      have x1 := Ext.alloc1 wo (.cells #[byteV l[i].kind, .slice U1 N1 n1, .slice V1 M1 m1] 112)
      obtain ⟨z0, z1, z2, -⟩ := cells3 (blk_new wo (.cells #[byteV l[i].kind, .slice U1 N1 n1, .slice V1 M1 m1] 112))
      have hz1 := HX.out.size
      have HA := Lib.hid (r4_apply (wo.alloc (.cells #[byteV l[i].kind, .slice U1 N1 n1, .slice V1 M1 m1] 112)) (F := fun b => b < wo.heap.size) (applyAllE [] (l.take i)) l[i] (hm.ext x1) ((hu.ext x1).mono (fun b hb _ => by omega) (.inl (by decide))) ((hv.ext x1).mono (fun b hb _ => by omega) (.inl (by decide))) (fun b hb => by rw [World.size_alloc]; omega) (by omega))
      have X1 := Lib.hid (HX.out.ext x1)
      have Hs := Lib.hid (applyAllE_succ hlt [])
      clear hm hx hu hv x1 hlen
      go_wp2_with (go_at_call 131; refine HA.out.mono ?_; rintro r w2 ⟨r2, rfl, hx2, hm2⟩; have HX2 := Lib.hid (X1.out.ext hx2); have Hm2 := Lib.hid hm2; obtain ⟨M2, mn2, mc2, rfl⟩ := hm2.form0; clear hx2 hm2)
      go_roundw
      case rel => exact ⟨i + 1, by omega, by go_num, by rw [Hs.out]; exact Hm2.out.mono (fun b _ h => h) (.inl (by decide)), HX2.out⟩
      case measure => simp [intOf]; omega
    · obtain rfl : i = l.length := by omega
      rw [List.take_length] at hm
      have Hm := Lib.hid hm
      clear hm hx hlen
      go_wp2
      go_ret
      exact ⟨_, rfl, HX1.out.ext HX.out, Hm.out⟩
end Go.Proofs.Yteaanagljmcidaa
