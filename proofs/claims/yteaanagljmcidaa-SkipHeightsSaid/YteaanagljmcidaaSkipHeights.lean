/- law08: SkipHeights. -/
import Derived.Test.YteaanagljmcidaaLawIns
import Derived.Test.YteaanagljmcidaaHeights
import Derived.Test.YteaanagljmcidaaSeenMap
import Derived.Test.YteaanagljmcidaaSkipTwice
namespace Go.Proofs.Yteaanagljmcidaa
open Go.RowKit

attribute [local go_sem ↓] Go.wp_at_zero Go.wp_at_succ

theorem few_user (l : List PutE) : ∀ p ∈ fewP l, p.e.key.user.length ≤ 80 := by
  intro p hp
  unfold fewP at hp
  obtain ⟨q, hq, rfl⟩ := List.mem_map.1 hp
  show (q.e.key.user.take 80).length ≤ 80
  rw [List.length_take]; omega

/-- Four bytes in a new row. -/
theorem bytes4 (w : World) (a b c d : UInt8) : Bs (w.alloc (.cells #[byteV a, byteV b, byteV c, byteV d] 5)) (fun _ => True) (.slice (some ⟨w.heap.size, 0, none⟩) 4 4) [a, b, c, d] := by
  have hb := blk_new w (.cells #[byteV a, byteV b, byteV c, byteV d] 5)
  refine ⟨_, 4, rfl, by simp, by simp [maxLen], by show 4 ≤ 140737488355328; decide, (fun h => by cases h), fun i hi => ?_⟩
  refine ⟨w.heap.size, 0, [byteV [a, b, c, d][i]], rfl, trivial, ⟨fun j u hu => ?_, fun j _ => blk_free hb _⟩, rfl⟩
  have hj : j = 0 := by
    have := (List.getElem?_eq_some_iff.1 hu).1
    simp at this; exact this
  subst hj
  have hi' : i < 4 := by simpa using hi
  have : i = 0 ∨ i = 1 ∨ i = 2 ∨ i = 3 := by omega
  rw [blk_cell hb]
  rcases this with rfl | rfl | rfl | rfl <;> simpa [byteC] using hu

theorem strOf_append (a b : List UInt8) : strOf a ++ strOf b = strOf (a ++ b) := ByteArray.mk_append_mk a b
theorem str_add (a b : List UInt8) (ha : a.length ≤ 1000) (hb : b.length ≤ 1000) (w : World) : (binOp .add 9 (.string (strOf a)) (.string (strOf b))).run Try.prog w = .ok (.string (strOf (a ++ b))) w := by
  have h1 : (strOf a).size = a.length := by simp [strOf, ByteArray.size]
  have h2 : (strOf b).size = b.length := by simp [strOf, ByteArray.size]
  rw [← strOf_append]
  simp only [binOp]
  exact run_string_add w (strOf a) (strOf b) (by omega) (by omega)

theorem byte_zero : byteV 0 = .int .u8 0 := rfl
theorem byte_low (n : UInt64) : byteV (UInt8.ofNat n.toNat) = .int .u8 ((n.toNat : Int) % 256) := by
  unfold byteV; rw [UInt8.toNat_ofNat']; rfl
theorem byte_high (n : UInt64) : byteV (UInt8.ofNat (n.toNat / 256)) = .int .u8 ((n.toNat : Int) / 256 % 256) := by
  unfold byteV; rw [UInt8.toNat_ofNat']; rfl

def namesOf (l : List Ent) : List (List UInt8) := (l.map fun e => nameOf e.key).reverse

/-- Loop 1: the versions that come for the first time. -/
structure H1 (w1 w2 w5 wr : World) (b0 : Nat) (once : List Ent) (v8 : Value) (k : Nat) : Prop where
  out : Out (fun b => b = b0) w5 wr
  seen : Seen wr b0 (namesOf once)
  own : Own entC 32 wr w5.heap.size (fun b => w1.heap.size ≤ b ∧ b < w2.heap.size) v8 once
  nodup : once.Pairwise fun a b => nameOf a.key ≠ nameOf b.key
  cnt : once.length ≤ k

/-- Loops 2 and 3: entries go into one list; the other one, and the entries, stay. -/
structure HX (ws wr : World) (FX FY FO : Nat → Prop) (LX LY : Nat) (mX mY : List (Ent × Nat)) (once : List Ent) (v8 : Value) : Prop where
  out : Out FX ws wr
  skx : SkM wr FX LX mX
  sky : SkM wr FY LY mY
  sl : Sl entC wr FO v8 once

section
variable {ws wr w1 : World} {FX FY FO : Nat → Prop} {LX LY : Nat} {mX mY : List (Ent × Nat)} {once : List Ent} {v8 : Value}
theorem HX.step (h : HX ws wr FX FY FO LX LY mX mY once v8) (hx : Ext wr w1) : HX ws w1 FX FY FO LX LY mX mY once v8 := ⟨h.out.ext hx, h.skx.ext hx, h.sky.ext hx, h.sl.ext hx⟩

theorem HX.call (h : HX ws wr FX FY FO LX LY mX mY once v8) (hY : ∀ b, FY b → ¬ FX b) (hO : ∀ b, FO b → ¬ FX b) (hFO : ∀ b, FO b → b < ws.heap.size) (hnew : ∀ b, ws.heap.size ≤ b → FX b) (hm : mX.length < 90000) (e : Ent) {u x : Value}
    (hu : Bs wr FO u e.key.user) (hx : Bs wr FO x e.value) (ht : Int) :
    Calls Try.prog 28 #[.pointer (some ⟨LX, 0, none⟩), .agg #[u, u64V e.key.seq, byteV e.key.kind, x], .int .i64 ht] wr fun r w' => (∃ c, r = .returned (.int .i64 c)) ∧ HX ws w' FX FY FO LX LY (insN mX e ht) mY once v8 := by
  have hsz := h.out.size
  refine (sk_insert h.skx hm (F := FO) (fun b hb => Nat.lt_of_lt_of_le (hFO b hb) hsz) hu hx ht).mono ?_
  rintro r w' ⟨rfl, ho, hs⟩
  exact ⟨⟨_, rfl⟩, h.out.trans ho, hs.mono fun b _ hb => by
    rcases hb with hb | hb
    · exact hb
    · exact hnew b (by omega), h.sky.frame ho (fun b _ hb => hY b hb), h.sl.out ho (fun b _ hb => hO b hb)⟩
end

theorem key_ne {once : List Ent} (h : once.Pairwise fun a b => nameOf a.key ≠ nameOf b.key) {i : Nat} (hi : i < once.length) : ∀ x ∈ once.take i, x.key ≠ once[i].key := by
  intro x hx e
  obtain ⟨j, hj, rfl⟩ := List.getElem_of_mem hx
  rw [List.length_take] at hj
  rw [List.getElem_take] at e
  exact List.pairwise_iff_getElem.1 h j i (by omega) hi (by omega) (by rw [e])
theorem key_ne' {once : List Ent} (h : once.Pairwise fun a b => nameOf a.key ≠ nameOf b.key) {q : Nat} (hq : q < once.length) : ∀ x ∈ (once.drop (q + 1)).reverse, x.key ≠ once[q].key := by
  intro x hx e
  rw [List.mem_reverse] at hx
  obtain ⟨j, hj, rfl⟩ := List.getElem_of_mem hx
  rw [List.length_drop] at hj
  rw [List.getElem_drop] at e
  exact List.pairwise_iff_getElem.1 h q (q + 1 + j) hq (by omega) (by omega) (by rw [e])

theorem Sl.byteAt {w : World} {F : Nat → Prop} {A : Option Addr} {n cap : Nat} {l : List UInt8} (h : BsA w F (.slice A n cap) l) (i : Nat) (hi : i < l.length) : ∃ b off, A = some ⟨b, off, none⟩ ∧ w.cell? ⟨b, off + i, none⟩ = some (byteV l[i]) := by
  obtain ⟨b, off, cs, hA, hF, hat, hr⟩ := Sl.get h i hi
  have hr' : cs = [byteV l[i]] := hr
  subst hr'
  have h1 := hat.cell 0 _ rfl
  exact ⟨b, off, hA, by simpa [byteCA, byteC] using h1⟩
theorem rev_drop {α : Type} (l : List α) (p : Nat) (hp : p < l.length) : (l.drop p).reverse = (l.drop (p + 1)).reverse ++ [l[p]] := by
  rw [List.drop_eq_getElem_cons hp, List.reverse_cons]

set_option maxRecDepth 100000 in
set_option maxHeartbeats 2000000 in
theorem skipHeights_walk (w : World) {F G : Nat → Prop} {x y : Value} (l : List PutE) (hx : Sl putCA w F x l) (hs : List UInt8) (hy : BsA w G y hs) :
    Calls Try.prog 4 #[x, y] w fun e w' => e = .returned (.bool true) ∧ Ext w w' := by
  obtain ⟨A, N, n, rfl⟩ := hx.form0
  obtain ⟨Y, c9, rfl, hy1, hy2, hy3, -⟩ := hy.form
  have hy5 : hs.length ≤ 9223372036854775807 := hy3
  have Hx := Lib.hid hx
  have Hy := Lib.hid hy
  clear hx hy hy2 hy3
  have hmm := @run_makeMap Try.prog
  go_enter Try.func4, Try.ntmps4
  go_wp2_with (first
    | (go_at_call 25; refine (law08_awake _).mono ?_; rintro r w1 ⟨rfl, hx1⟩)
    | (go_at_call 27; refine (law08_few _ l (Hx.out.ext hx1)).mono ?_; rintro r w2 ⟨v2, rfl, hx2, hs2⟩; have hfu := Lib.hid (few_user l); have hsl2 := Lib.hid (hs2.below (by decide)); have hlen2 : (fewP l).length ≤ 60 := by { unfold fewP; rw [List.length_map, List.length_take]; omega }; obtain ⟨A3, n3, rfl, -⟩ := hs2.form)
    | (have hh := hs2; clear hh; go_at_call 26; refine (sk_newM _).mono ?_; rintro r w4 ⟨La, rfl, hx4, hs4⟩; clear hs2)
    | (have hh := hs4; clear hh; go_at_call 26; refine (sk_newM _).mono ?_; rintro r w5 ⟨Lb, rfl, hx5, hs5⟩; have HA := Lib.hid hs4; have HB := Lib.hid hs5; clear hs4 hs5))
  generalize fewP l = fl at *
  have hsz4 := hx4.size
  have hsz5 := hx5.size
  simp only [World.size_alloc] at hsz4
  have hsz2 := hx2.size
  have hsz1 := hx1.size
  have Hseen := Lib.hid (((seen_make w2).ext hx4).ext hx5)
  have Hsl5 := Lib.hid (((hsl2.out.alloc (.map #[] 0)).ext hx4).ext hx5)
  have Hx5 := Lib.hid ((((hx1.ext hx2).alloc (.map #[] 0)).ext hx4).ext hx5)
  have Hx45 := Lib.hid hx5
  clear hsl2 hx1 hx2 hx4 hx5
  go_loopw [25, 8] (fun s25 s8 wr => ∃ (k : Nat) (once : List Ent), k ≤ fl.length ∧ s25 = .int .i64 k ∧ H1 w1 w2 w5 wr w2.heap.size once s8 k) (fun s25 _ _ => fl.length - (intOf s25).toNat)
  case atStart => exact ⟨0, [], Nat.zero_le _, rfl, Out.refl _ _, Hseen.out, Own.nil _ _ _ _ _, List.Pairwise.nil, Nat.le_refl _⟩
  case round =>
    obtain ⟨k, once, hk, rfl, hH⟩ := hrel
    have HH := Lib.hid hH
    by_cases hlt : k < fl.length
    · obtain ⟨b1, o1, u1, v1, hA1, -, c0, c1, c2, c3, c4, hu, hv, -, -⟩ := (Hsl5.out.out hH.out (fun b _ hb e => by omega)).put k hlt
      subst hA1
      obtain ⟨U, n1, rfl, -⟩ := hu.form
      obtain ⟨V, N2, n2, rfl⟩ := hv.form0
      have hul := hfu.out _ (List.getElem_mem hlt)
      obtain ⟨A8, k8, m8, hs8⟩ := hH.own.form0
      subst hs8
      generalize fl[k] = p at *
      have hz := blk_new wr (.cells #[.slice U p.e.key.user.length n1, u64V p.e.key.seq, byteV p.e.key.kind, .slice V N2 n2, .int .i64 p.h] 34)
      obtain ⟨z0, z1, z2, z3, z4, -⟩ := cells5 hz
      have Hz := Lib.hid hz
      have Hu := Lib.hid hu
      have Hv := Lib.hid hv
      have hq1 := str_of (hu.alloc (.cells #[.slice U p.e.key.user.length n1, u64V p.e.key.seq, byteV p.e.key.kind, .slice V N2 n2, .int .i64 p.h] 34))
      have hq2 := str_of (bytes4 (wr.alloc (.cells #[.slice U p.e.key.user.length n1, u64V p.e.key.seq, byteV p.e.key.kind, .slice V N2 n2, .int .i64 p.h] 34)) 0 (UInt8.ofNat p.e.key.seq.toNat) (UInt8.ofNat (p.e.key.seq.toNat / 256)) p.e.key.kind)
      rw [World.size_alloc, byte_zero, byte_low, byte_high] at hq2
      have hsz1 : (strOf p.e.key.user).size = p.e.key.user.length := by simp [strOf, ByteArray.size]
      have hsz2' : (strOf [0, UInt8.ofNat p.e.key.seq.toNat, UInt8.ofNat (p.e.key.seq.toNat / 256), p.e.key.kind]).size = 4 := by simp [strOf, ByteArray.size]
      have hnm : strOf (nameOf p.e.key) = strOf p.e.key.user ++ strOf [0, UInt8.ofNat p.e.key.seq.toNat, UInt8.ofNat (p.e.key.seq.toNat / 256), p.e.key.kind] := (strOf_append _ _).symm
      generalize strOf [0, UInt8.ofNat p.e.key.seq.toNat, UInt8.ofNat (p.e.key.seq.toNat / 256), p.e.key.kind] = sF at *
      generalize strOf p.e.key.user = sU at *
      have hszz : ¬ (9223372036854775807 < sU.size + sF.size) := by omega
      clear hsz1 hsz2'
      have hnl : (nameOf p.e.key).length ≤ 1000 := by unfold nameOf; simp; omega
      have hs3 : Seen ((wr.alloc (.cells #[.slice U p.e.key.user.length n1, u64V p.e.key.seq, byteV p.e.key.kind, .slice V N2 n2, .int .i64 p.h] 34)).alloc (.cells #[.int .u8 0, .int .u8 ((p.e.key.seq.toNat : Int) % 256), .int .u8 ((p.e.key.seq.toNat : Int) / 256 % 256), byteV p.e.key.kind] 5)) w2.heap.size (namesOf once) := (HH.out.seen.ext (Ext.alloc1 _ _)).ext (Ext.alloc1 _ _)
      have hlk := hs3.look (nameOf p.e.key) hnl
      rw [hnm] at hlk
      by_cases hin : nameOf p.e.key ∈ namesOf once
      · have hd : decide (nameOf p.e.key ∈ namesOf once) = true := decide_eq_true hin
        rw [hd] at hlk
        clear hH hu hv hz hs3 hd hin hnm hnl
        go_wp2
        go_roundw
        case rel => exact ⟨k + 1, once, by omega, by go_num, { HH.out with out := (HH.out.out.alloc _).alloc _, seen := (HH.out.seen.ext (Ext.alloc1 _ _)).ext (Ext.alloc1 _ _), own := (HH.out.own.ext (Ext.alloc1 _ _)).ext (Ext.alloc1 _ _), cnt := by have := HH.out.cnt; omega }⟩
        case measure => simp [intOf]; omega
      · have hd : decide (nameOf p.e.key ∈ namesOf once) = false := decide_eq_false hin
        rw [hd] at hlk
        obtain ⟨w6, hup, hs6, ho6⟩ := hs3.put (nameOf p.e.key) hnl (by unfold namesOf; have := HH.out.cnt; simp; omega)
        rw [hnm] at hup
        have hx6 : Ext wr ((wr.alloc (.cells #[.slice U p.e.key.user.length n1, u64V p.e.key.seq, byteV p.e.key.kind, .slice V N2 n2, .int .i64 p.h] 34)).alloc (.cells #[.int .u8 0, .int .u8 ((p.e.key.seq.toNat : Int) % 256), .int .u8 ((p.e.key.seq.toNat : Int) / 256 % 256), byteV p.e.key.kind] 5)) := (Ext.alloc1 _ _).alloc _
        have hwr := HH.out.out.size
        have hw6 := ho6.size
        simp only [World.size_alloc] at hw6
        have Hown6 := Lib.hid ((HH.out.own.ext hx6).frame ho6 (fun b _ hb _ e => by omega) (fun b _ hb _ e => by omega))
        have Hrow := Lib.hid Hown6.out.lt
        have Hu6 := Lib.hid (((Hu.out.ext hx6).out ho6 (fun b _ hb e => by omega)).mono (G := fun b => (w1.heap.size ≤ b ∧ b < w2.heap.size) ∧ (Value.slice A8 k8 m8).ownBlock ≠ some b) (fun b hb _ => ⟨hb, fun e => by have := (Hrow.out b e).1; omega⟩) (.inl (by decide)))
        have Hv6 := Lib.hid (((Hv.out.ext hx6).out ho6 (fun b _ hb e => by omega)).mono (G := fun b => (w1.heap.size ≤ b ∧ b < w2.heap.size) ∧ (Value.slice A8 k8 m8).ownBlock ≠ some b) (fun b hb _ => ⟨hb, fun e => by have := (Hrow.out b e).1; omega⟩) (.inl (by decide)))
        have Hout6 := Lib.hid ((HH.out.out.ext hx6).trans ho6)
        have Hs6 := Lib.hid hs6
        have Hin := Lib.hid hin
        obtain ⟨y0, y1, y2, y3, -, -⟩ := cells5 (ho6.blk (blk_alloc Hz.out _) (by omega))
        have hcnt := HH.out.cnt
        clear hs3 hd hnm hx6 ho6 hs6 hin
        go_wp2_with (first | (at_builtin; refine wpList_append_one rfl (.tmp 57) (.tmp 60) 43 rfl fits32 (Hown6.out.ext (Ext.alloc1 _ _)) rfl (by simp; omega) (blk_new _ _) rfl p.e ⟨.slice U p.e.key.user.length n1, .slice V N2 n2, rfl, Hu6.out.ext (Ext.alloc1 _ _), Hv6.out.ext (Ext.alloc1 _ _)⟩ (by omega) (by decide) ?_; intro v' w' g1 g2 g3; have G1 := Lib.hid g1; have G2 := Lib.hid g2; obtain ⟨A9, k9, m9, rfl⟩ := g1.form0; clear g1 g2 g3))
        go_roundw
        case rel => exact ⟨k + 1, once ++ [p.e], by omega, by go_num, {
          out := (Hout6.out.alloc _).then G2.out (fun i hi e => by have := (Hrow.out i e).1; omega)
          seen := by
            have h1 : namesOf (once ++ [p.e]) = nameOf p.e.key :: namesOf once := by unfold namesOf; simp
            rw [h1]
            exact (Hs6.out.ext (Ext.alloc1 _ _)).out G2.out (fun e => by have := (Hrow.out _ e).1; omega)
          own := G1.out
          nodup := by
            rw [List.pairwise_append]
            refine ⟨HH.out.nodup, by simp, fun a ha b hb => ?_⟩
            have hb' : b = p.e := by simpa using hb
            subst hb'
            intro e
            exact Hin.out (by unfold namesOf; rw [List.mem_reverse, List.mem_map]; exact ⟨a, ha, e⟩)
          cnt := by simp; omega }⟩
        case measure => simp [intOf]; omega
    · rename World => ws
      obtain rfl : k = fl.length := by omega
      have hwq := HH.out.out.size
      have hcnt := HH.out.cnt
      have Hnd := Lib.hid HH.out.nodup
      obtain ⟨A8, n8, hs8, -⟩ := HH.out.own.form
      subst hs8
      have hE : HX ws ws (fun b => (w2.heap.size + 1 ≤ b ∧ b < w4.heap.size) ∨ ws.heap.size ≤ b) (fun b => w4.heap.size ≤ b ∧ b < w5.heap.size) (fun b => (w1.heap.size ≤ b ∧ b < w2.heap.size) ∨ (w5.heap.size ≤ b ∧ b < ws.heap.size)) La Lb [] [] once (.slice A8 once.length n8) :=
        ⟨Out.refl _ _, ((HA.out.mono (G := fun b => w2.heap.size + 1 ≤ b ∧ b < w4.heap.size) (fun b hb h1 => ⟨by simpa using h1, hb⟩)).ext Hx45.out).frame HH.out.out (fun b _ hb e => by omega) |>.mono (fun b _ hb => .inl hb),
          (HB.out.mono (G := fun b => w4.heap.size ≤ b ∧ b < w5.heap.size) (fun b hb h1 => ⟨h1, hb⟩)).frame HH.out.out (fun b _ hb e => by omega),
          HH.out.own.sl (by decide) (by show _ ≤ 140737488355328; omega) (fun b hb _ => .inl hb) (fun b hb hl => .inr ⟨hb, hl⟩)⟩
      have HE := Lib.hid hE
      have hol : once.length ≤ 60 := by omega
      have HOutW := Lib.hid (Hx5.out.then HH.out.out (fun i hi e => by omega))
      clear hE hcnt
      clear HH
      go_wp2
      obtain ⟨FO, hFO⟩ : ∃ FO : Nat → Prop, FO = fun b => (w1.heap.size ≤ b ∧ b < w2.heap.size) ∨ (w5.heap.size ≤ b ∧ b < ws.heap.size) := ⟨_, rfl⟩
      obtain ⟨FA, hFA⟩ : ∃ FA : Nat → Prop, FA = fun b => (w2.heap.size + 1 ≤ b ∧ b < w4.heap.size) ∨ ws.heap.size ≤ b := ⟨_, rfl⟩
      obtain ⟨FB, hFB⟩ : ∃ FB : Nat → Prop, FB = fun b => w4.heap.size ≤ b ∧ b < w5.heap.size := ⟨_, rfl⟩
      rw [← hFO, ← hFA, ← hFB] at HE
      have hBA : ∀ b, FB b → ¬ FA b := fun b h1 h2 => by rw [hFB] at h1; rw [hFA] at h2; omega
      have hOA : ∀ b, FO b → ¬ FA b := fun b h1 h2 => by rw [hFO] at h1; rw [hFA] at h2; omega
      have hOl : ∀ b, FO b → b < ws.heap.size := fun b h1 => by rw [hFO] at h1; omega
      have hAn : ∀ b, ws.heap.size ≤ b → FA b := fun b h1 => by rw [hFA]; exact .inr h1
      have HBA := Lib.hid hBA
      have HOA := Lib.hid hOA
      have HOB : Hid (∀ b, FO b → ¬ FB b) := Lib.hid (fun b h1 h2 => by rw [hFO] at h1; rw [hFB] at h2; omega)
      have HBw : Hid (∀ b, FB b → w.heap.size ≤ b ∧ b < ws.heap.size) := Lib.hid (fun b h1 => by rw [hFB] at h1; omega)
      have HAw : Hid (∀ b, FA b → w.heap.size ≤ b) := Lib.hid (fun b h1 => by rw [hFA] at h1; omega)
      have HOl := Lib.hid hOl
      have HAn := Lib.hid hAn
      clear hBA hOA hOl hAn
      go_loopw [65] (fun s65 wr => ∃ (i : Nat) (ma : List (Ent × Nat)), i ≤ once.length ∧ s65 = .int .i64 i ∧ HX ws wr FA FB FO La Lb ma [] once (.slice A8 once.length n8) ∧ Holds ma (once.take i) ∧ ma.length ≤ i) (fun s65 _ => once.length - (intOf s65).toNat)
      case atStart => exact ⟨0, [], Nat.zero_le _, rfl, HE.out, Holds.nil, Nat.le_refl _⟩
      case round =>
        obtain ⟨i, ma, hi, rfl, hX, hho, hml⟩ := hrel
        by_cases hlt2 : i < once.length
        · obtain ⟨b1, o1, u1, v1, hA1, -, c0, c1, c2, c3, hu, hv⟩ := hX.sl.ent i hlt2
          subst hA1
          obtain ⟨U, N1, n1, rfl⟩ := hu.form0
          obtain ⟨V, N2, n2, rfl⟩ := hv.form0
          obtain ⟨z0, z1, z2, z3, -⟩ := cells4 (blk_new wr (.cells #[.slice U N1 n1, u64V once[i].key.seq, byteV once[i].key.kind, .slice V N2 n2] 32))
          have Hu := Lib.hid (hu.alloc (.cells #[.slice U N1 n1, u64V once[i].key.seq, byteV once[i].key.kind, .slice V N2 n2] 32))
          have Hv := Lib.hid (hv.alloc (.cells #[.slice U N1 n1, u64V once[i].key.seq, byteV once[i].key.kind, .slice V N2 n2] 32))
          have HX2 := Lib.hid (hX.step (Ext.alloc1 wr (.cells #[.slice U N1 n1, u64V once[i].key.seq, byteV once[i].key.kind, .slice V N2 n2] 32)))
          have Hho := Lib.hid hho
          have hht := ht_range i
          have Hht := Lib.hid hht
          have Hkn := Lib.hid (key_ne Hnd.out hlt2)
          clear hu hv hX hho hht
          go_wp2_with (first | (go_at_call 28; refine (HX2.out.call HBA.out HOA.out HOl.out HAn.out (by omega) once[i] Hu.out Hv.out _).mono ?_; rintro r w6 ⟨⟨c, rfl⟩, hX6⟩))
          go_roundw
          case rel => exact ⟨i + 1, _, by omega, by go_num, hX6, by rw [List.take_succ_eq_append_getElem hlt2]; exact Hho.out.ins Hkn.out (by omega) (by omega), Nat.le_trans (insN_length _ _ _) (by omega)⟩
          case measure => simp [intOf]; omega
        · obtain rfl : i = once.length := by omega
          rename World => wz
          rw [List.take_length] at hho
          have hwz := hX.out.size
          have hE : HX wz wz (fun b => FB b ∨ wz.heap.size ≤ b) (fun b => FA b ∧ b < wz.heap.size) FO Lb La [] ma once (.slice A8 once.length n8) :=
            ⟨Out.refl _ _, hX.sky.mono (fun b _ hb => .inl hb), hX.skx.mono (fun b hb h => ⟨h, hb⟩), hX.sl⟩
          have HE := Lib.hid hE
          have Hho := Lib.hid hho
          have HOutZ := Lib.hid (HOutW.out.then hX.out (fun i hi e => by have := HAw.out i e; omega))
          obtain ⟨FX, hFX⟩ : ∃ FX : Nat → Prop, FX = fun b => FB b ∨ wz.heap.size ≤ b := ⟨_, rfl⟩
          obtain ⟨FY, hFY⟩ : ∃ FY : Nat → Prop, FY = fun b => FA b ∧ b < wz.heap.size := ⟨_, rfl⟩
          have HYX : Hid (∀ b, FY b → ¬ FX b) := Lib.hid (by rw [hFX, hFY]; intro b h1 h2; rcases h2 with h2 | h2; exact HBA.out b h2 h1.1; have := h1.2; omega)
          have HOX : Hid (∀ b, FO b → ¬ FX b) := Lib.hid (by rw [hFX]; intro b h1 h2; rcases h2 with h2 | h2; exact HOB.out b h1 h2; have := HOl.out b h1; omega)
          have HOl2 : Hid (∀ b, FO b → b < wz.heap.size) := Lib.hid (fun b h1 => by have := HOl.out b h1; omega)
          have HXw : Hid (∀ b, FX b → w.heap.size ≤ b) := Lib.hid (by rw [hFX]; intro b h1; have := HOutZ.out.size; rcases h1 with h1 | h1; exact (HBw.out b h1).1; omega)
          have HNX : Hid (∀ b, wz.heap.size ≤ b → FX b) := Lib.hid (by rw [hFX]; exact fun b h1 => .inr h1)
          rw [← hFX, ← hFY] at HE
          clear hX hho hE hFX hFY
          go_wp2
          go_loopw [14] (fun s14 wr => ∃ (q : Nat) (z : Int) (mb : List (Ent × Nat)), q ≤ once.length ∧ z = (q : Int) - 1 ∧ s14 = .int .i64 z ∧ HX wz wr FX FY FO Lb La mb ma once (.slice A8 once.length n8) ∧ Holds mb (once.drop q).reverse ∧ mb.length ≤ once.length - q) (fun s14 _ => (intOf s14 + 1).toNat)
          case atStart => exact ⟨once.length, _, [], Nat.le_refl _, rfl, by go_num, HE.out, by rw [List.drop_length]; exact Holds.nil, by simp⟩
          case round =>
            obtain ⟨q, z, mb, hq, hz, rfl, hX, hho, hml⟩ := hrel
            by_cases hlt3 : 0 ≤ z
            · obtain ⟨p, rfl⟩ : ∃ p : Nat, z = p := ⟨z.toNat, by omega⟩
              obtain rfl : q = p + 1 := by omega
              have hp : p < once.length := by omega
              obtain ⟨b1, o1, u1, v1, hA1, -, c0, c1, c2, c3, hu, hv⟩ := hX.sl.ent p hp
              subst hA1
              obtain ⟨U, N1, n1, rfl⟩ := hu.form0
              obtain ⟨V, N2, n2, rfl⟩ := hv.form0
              have Hu := Lib.hid hu
              have Hv := Lib.hid hv
              have HX2 := Lib.hid hX
              have Hho := Lib.hid hho
              have Hkn := Lib.hid (key_ne' Hnd.out hp)
              clear hu hv hX hho hz
              by_cases hb : p < hs.length
              · obtain ⟨b2, o2, hY, d0⟩ := (Hy.out.ext (HOutZ.out.then HX2.out.out (fun i hi e => by have := HXw.out i e; omega))).byteAt p hb
                subst hY
                have hh8 : hs[p].toNat < 256 := hs[p].toNat_lt
                go_wp2_with (first | (go_at_call 28; refine (HX2.out.call HYX.out HOX.out HOl2.out HNX.out (by omega) once[p] Hu.out Hv.out _).mono ?_; rintro r w6 ⟨⟨c, rfl⟩, hX6⟩))
                go_roundw
                case rel => exact ⟨p, _, _, by omega, rfl, by go_num, hX6, by rw [rev_drop _ _ hp]; exact Hho.out.ins Hkn.out (by omega) (by omega), Nat.le_trans (insN_length _ _ _) (by omega)⟩
                case measure => first | (simp [intOf]; done) | (simp [intOf]; omega)
              · go_wp2_with (first | (go_at_call 28; refine (HX2.out.call HYX.out HOX.out HOl2.out HNX.out (by omega) once[p] Hu.out Hv.out _).mono ?_; rintro r w6 ⟨⟨c, rfl⟩, hX6⟩))
                go_roundw
                case rel => exact ⟨p, _, _, by omega, rfl, by go_num, hX6, by rw [rev_drop _ _ hp]; exact Hho.out.ins Hkn.out (by omega) (by omega), Nat.le_trans (insN_length _ _ _) (by omega)⟩
                case measure => first | (simp [intOf]; done) | (simp [intOf]; omega)
            · obtain rfl : q = 0 := by omega
              rename World => wy
              rw [List.drop_zero] at hho
              have HSb := Lib.hid hX.skx
              have HSa := Lib.hid hX.sky
              have HOutY := Lib.hid (HOutZ.out.then hX.out (fun i hi e => by have := HXw.out i e; omega))
              have heq : ma.map (·.1) = mb.map (·.1) := sorted_eq (sortedE_of HSa.out.sorted) (sortedE_of HSb.out.sorted) (fun x => by rw [Hho.out x, hho x, List.mem_reverse])
              have hsz : sizeM ma = sizeM mb := sizeM_fst heq
              obtain ⟨all, hallA⟩ : ∃ all, ma.map (·.1) = all := ⟨_, rfl⟩
              have hallB : mb.map (·.1) = all := heq.symm.trans hallA
              have hl60 : all.length ≤ 60 := by rw [← hallA, List.length_map]; omega
              have HAll : Hid (∀ w', SkM w' FY La ma → Calls Try.prog 33 #[.pointer (some ⟨La, 0, none⟩)] w' (Owned entC 32 w' all)) := Lib.hid fun w' h => hallA ▸ sk_allM h
              have HBll : Hid (∀ w', SkM w' FX Lb mb → Calls Try.prog 33 #[.pointer (some ⟨Lb, 0, none⟩)] w' (Owned entC 32 w' all)) := Lib.hid fun w' h => hallB ▸ sk_allM h
              have hde : decide (all = all) = true := decide_eq_true rfl
              obtain ⟨sz, hszE⟩ : ∃ sz, sizeM ma = sz := ⟨_, rfl⟩
              have HszA := Lib.hid hszE
              have HszB : Hid (sizeM mb = sz) := Lib.hid (hsz.symm.trans hszE)
              clear heq hsz hallA hallB hszE hho hX
              go_wp2_with (first
                | (have hh := hx6; clear hh; go_at_call 33; refine (HBll.out _ (HSb.out.ext hx6)).mono ?_; rintro r w7 ⟨v7, rfl, hx7, ho7⟩; have hsl7 := Lib.hid (Owned.ents ho7 (by omega)); obtain ⟨A7, n7, rfl, -⟩ := hsl7.out.form; clear ho7)
                | (go_at_call 33; refine (HAll.out _ HSa.out).mono ?_; rintro r w6 ⟨v6, rfl, hx6, ho6⟩; have hsl6 := Lib.hid (Owned.ents ho6 (by omega)); obtain ⟨A6, n6, rfl, -⟩ := hsl6.out.form; clear ho6)
                | (go_at_call 32; refine (r3_sameEntries _ _ _ (hsl6.out.ext hx7) hsl7.out).mono ?_; rintro r w8 ⟨rfl, hx8⟩)
                | (have hh := hm9; clear hh; go_at_call 34; refine (sk_sizeM _ (((HSb.out.ext hx6).ext hx7).ext hx8)).mono ?_; rw [HszB.out]; rintro r w9 ⟨rfl, rfl⟩)
                | (go_at_call 34; refine (sk_sizeM _ (((HSa.out.ext hx6).ext hx7).ext hx8)).mono ?_; rw [HszA.out]; rintro r w9 ⟨rfl, rfl⟩; have hm9 := True.intro))
              go_ret
              exact ⟨rfl, ((HOutY.out.ext hx6).ext hx7).ext hx8⟩
end Go.Proofs.Yteaanagljmcidaa
