/- law10: op, awake. -/
import Derived.Test.YteaanagljmcidaaMemoCDE
import Derived.Test.YteaanagljmcidaaEntry8
import Derived.Test.YteaanagljmcidaaAwake8
import Derived.Lib.SlBytesConst
namespace Go.Proofs.Yteaanagljmcidaa
open Go.RowKit

attribute [local go_sem ↓] Go.wp_at_zero Go.wp_at_succ

theorem law10_op (w : World) (kd : UInt8) (l m : List UInt8) (hl : l.length ≤ 1000000) (hm : m.length ≤ 1000000) : Calls Try.prog 132 #[.int .u8 (kd.toNat : Int), .string (strOf l), .string (strOf m)] w fun r w' => ∃ u v, r = .returned (.agg #[byteV kd, u, v]) ∧ Ext w w' ∧ Bs w' (fun b => w.heap.size ≤ b) u l ∧ Bs w' (fun b => w.heap.size ≤ b) v m := by
  have hcv := fun W => Lib.run_convert_string_bytes (P := Try.prog) W 9 27 5 (strOf l) Try.underlying9 Try.underlying27 Try.underlying5
  have hcm := fun W => Lib.run_convert_string_bytes (P := Try.prog) W 9 27 5 (strOf m) Try.underlying9 Try.underlying27 Try.underlying5
  have hx := conv_ext (w.alloc (.cells #[.int .u8 0, .slice none 0 0, .slice none 0 0] 112)) l
  have hb := conv_bs (w.alloc (.cells #[.int .u8 0, .slice none 0 0, .slice none 0 0] 112)) l hl
  have hy := conv_ext (Lib.bytesWorld (w.alloc (.cells #[.int .u8 0, .slice none 0 0, .slice none 0 0] 112)) 5 (strOf l)) m
  have hc := conv_bs (Lib.bytesWorld (w.alloc (.cells #[.int .u8 0, .slice none 0 0, .slice none 0 0] 112)) 5 (strOf l)) m hm
  rw [World.size_alloc] at hb
  rw [Lib.bytesWorld_size, World.size_alloc] at hc
  have hz := hy.blk (hx.blk (blk_new w (.cells #[.int .u8 0, .slice none 0 0, .slice none 0 0] 112)) (fun f => f)) (fun f => f)
  obtain ⟨z0, z1, z2, zf⟩ := cells3 hz
  have hs1 := Lib.bytesWorld_size (w.alloc (.cells #[.int .u8 0, .slice none 0 0, .slice none 0 0] 112)) 5 (strOf l)
  rw [World.size_alloc] at hs1
  generalize strOf l = sl at *
  generalize strOf m = sm at *
  have Z := Lib.hid hz
  have Hx := Lib.hid hx
  have Hb := Lib.hid hb
  have Hy := Lib.hid hy
  have Hc := Lib.hid hc
  clear hx hb hz hy hc
  go_enter Try.func132, Try.ntmps132
  go_wp2
  generalize Lib.bytesWorld (w.alloc (.cells #[.int .u8 0, .slice none 0 0, .slice none 0 0] 112)) 5 sl = W1 at *
  generalize grownCap (w.alloc (.cells #[.int .u8 0, .slice none 0 0, .slice none 0 0] 112)) sl.size 0 5 = g at *
  generalize Lib.bytesWorld W1 5 sm = W2 at *
  generalize grownCap W1 sm.size 0 5 = g2 at *
  obtain ⟨r0, r1, r2, -⟩ := cells3 (blk_set3 Z.out (.int .u8 (kd.toNat : Int)) (.slice (some ⟨w.heap.size + 1, 0, none⟩) sl.size g) (.slice (some ⟨w.heap.size + 1 + 1, 0, none⟩) sm.size g2))
  have ho := out_set3 (S := fun k => k = w.heap.size) (Out.refl _ W2) (g := w.heap.size) (fun _ => rfl) (.int .u8 (kd.toNat : Int)) (.slice (some ⟨w.heap.size + 1, 0, none⟩) sl.size g) (.slice (some ⟨w.heap.size + 1 + 1, 0, none⟩) sm.size g2)
  have hx2 : Ext w W2 := ((Ext.alloc1 w _).trans Hx.out).trans Hy.out
  refine bodyPost_ret (v := .agg #[.int .u8 (kd.toNat : Int), .slice (some ⟨w.heap.size + 1, 0, none⟩) sl.size g, .slice (some ⟨w.heap.size + 1 + 1, 0, none⟩) sm.size g2]) (by simp [results, Try.results132, go_sem, r0, r1, r2]) rfl ⟨_, _, rfl, out_set3 hx2 (by simp) _ _ _, ?_, ?_⟩
  · exact ((Hb.out.ext Hy.out).out ho (fun b _ hb => by omega)).mono (fun b hb _ => by omega) (.inl (by decide))
  · exact (Hc.out.out ho (fun b _ hb => by omega)).mono (fun b hb _ => by omega) (.inl (by decide))
theorem law10_opI (w : World) (kd : UInt8) (l m : List UInt8) (hl : l.length ≤ 1000000) (hm : m.length ≤ 1000000) (k : Int) (s t : ByteArray) (hk : k = (kd.toNat : Int)) (hs : s = strOf l) (ht : t = strOf m) : Calls Try.prog 132 #[.int .u8 k, .string s, .string t] w fun r w' => ∃ u v, r = .returned (.agg #[byteV kd, u, v]) ∧ Ext w w' ∧ Bs w' (fun b => w.heap.size ≤ b) u l ∧ Bs w' (fun b => w.heap.size ≤ b) v m := by
  subst hk hs ht; exact law10_op w kd l m hl hm

/-- One byte in a new row, as a literal is laid. -/
theorem bytes1 (w : World) (a : UInt8) : Bs (w.alloc (.cells #[byteV a] 5 (1, 2))) (fun b => w.heap.size ≤ b) (.slice (some ⟨w.heap.size, 0, none⟩) 1 1) [a] := by
  have hb := blk_new w (.cells #[byteV a] 5 (1, 2))
  refine ⟨_, 1, rfl, by simp, by simp [maxLen], by show 1 ≤ 140737488355328; decide, (fun h => by cases h), fun i hi => ?_⟩
  have hi' : i = 0 := by simpa using hi
  subst hi'
  refine ⟨w.heap.size, 0, [byteV a], rfl, Nat.le_refl _, ⟨fun j u hu => ?_, fun j hj => ?_⟩, rfl⟩
  · have hj : j = 0 := by
      have := (List.getElem?_eq_some_iff.1 hu).1
      simp at this; exact this
    subst hj
    rw [cell_of_row _ _ _ _ _ (1, 2) hb]
    simpa [byteC] using hu
  · have hj : j = 0 := by simpa using hj
    subst hj
    unfold World.frozen?
    rw [hb]
    rfl

theorem memo_doI {w : World} {M B C : Nat} {s s' : MS} (h : MmS w (fun b => B ≤ b) M s) (hB : B ≤ w.heap.size) {k u x : Value} (o : OpE) (hk : k = byteV o.kind) (hu : Bs w (fun b => C ≤ b) u o.key) (hx : Bs w (fun b => C ≤ b) x o.val) (z : Int) (q : Nat) (hz : z = q) (ht : Int) {n : Nat} (hn : okS s n) (hn' : n < 80000) (hr : doR s.last o q ht = 0) (hs : s.put o q ht = s') :
    Calls Try.prog 86 #[.pointer (some ⟨M, 0, none⟩), .agg #[k, u, x], .int .u64 z, .int .i64 ht] w fun e w' => e = .returned (.int .i64 0) ∧ Out (fun b => B ≤ b) w w' ∧ MmS w' (fun b => B ≤ b) M s' := by
  subst hz hk hs
  obtain ⟨h1, h2, h3, h4⟩ := hn
  refine (memo_do h o (G := fun b => C ≤ b ∧ b < w.heap.size) (fun b hb => hb.2) (hu.belowM (by decide)) (hx.belowM (by decide)) q (by omega) (by omega) h3 (by omega) ht hr).mono ?_
  rintro r w' ⟨rfl, ho, hm⟩
  exact ⟨rfl, ho, Mm.mono hm fun b _ hb => by omega⟩
theorem memo_getI {w : World} {Foot H : Nat → Prop} {M : Nat} {s : MS} {v0 : List UInt8} {st : Int} (h : MmS w Foot M s) {x : Value} (key : List UInt8) (hx : Bs w H x key) (z : Int) (q : Nat) (hz : z = q) (hg : getE s key q = (v0, st)) :
    Calls Try.prog 73 #[.pointer (some ⟨M, 0, none⟩), x, .int .u64 z] w fun e w' => ∃ v, e = .returned (.tuple #[v, .int .i64 st]) ∧ Ext w w' ∧ Bs w' (fun b => w.heap.size ≤ b) v v0 := by
  subst hz
  refine (memo_get h key hx q).mono ?_
  rw [hg]
  exact fun _ _ h => h

def s0 : MS := ⟨[], [], 0, 0⟩
def o1 : OpE := ⟨2, [97], [120]⟩
def o2 : OpE := ⟨3, [97], [99]⟩
def o3 : OpE := ⟨2, [98], [121]⟩
def s1 : MS := ⟨[(⟨⟨[97], 1, 2⟩, [120]⟩, 1)], [], 18, 1⟩
def s2 : MS := ⟨[(⟨⟨[97], 1, 2⟩, [120]⟩, 1)], [⟨[97], [99], 2⟩], 36, 2⟩
def s3 : MS := ⟨[(⟨⟨[97], 1, 2⟩, [120]⟩, 1), (⟨⟨[98], 3, 2⟩, [121]⟩, 2)], [⟨[97], [99], 2⟩], 54, 3⟩
deriving instance DecidableEq for MS
theorem aw10a : doR 0 o1 1 1 = 0 ∧ s0.put o1 1 1 = s1 := by decide
theorem aw10b : doR 1 o2 2 1 = 0 ∧ s1.put o2 2 1 = s2 := by decide
theorem aw10c : doR 2 o3 3 2 = 0 ∧ s2.put o3 3 2 = s3 := by decide
theorem aw10d : getE s3 [97] 1 = ([120], 1) ∧ getE s3 [97] 3 = ([], 2) ∧ getE s3 [98] 2 = ([], 2) ∧ getE s3 [99] 9 = ([], 0) := by decide

set_option maxRecDepth 100000 in
set_option maxHeartbeats 1000000 in
theorem law10_awake (w : World) : Calls Try.prog 69 #[] w fun e w' => e = .returned (.bool true) ∧ Ext w w' := by
  have hs0 : Hid (okS s0 10) := Lib.hid (by unfold okS; decide)
  have hs1 : Hid (okS s1 10) := Lib.hid (by unfold okS; decide)
  have hs2 : Hid (okS s2 10) := Lib.hid (by unfold okS; decide)
  have hsX : ((strOf [120]).toList == [120]) = true := by rw [strOf_toList]; decide
  have kc := fun (w : World) (C : Array Value) (n c : Nat) => Lib.run_convert_bytes_const (P := Try.prog) w 27 5 C n c Try.underlying27 Try.underlying5
  go_enter Try.func69, Try.ntmps69
  go_wp2_with (first
    | (go_at_call 70; refine (memo_new _).mono ?_; rintro r w1 ⟨M, rfl, hx1, hm1⟩; have HM1 : Hid (MmS w1 (fun b => w.heap.size ≤ b) M s0) := Lib.hid hm1; have E1 := Lib.hid hx1; clear hm1 hx1)
    | (have hh := HM1; clear hh; go_at_call 132; refine (law10_opI _ 2 [97] [120] (by decide) (by decide) _ _ _ rfl rfl rfl).mono ?_; rintro r w2 ⟨u1, v1, rfl, hx1, hu1, hv1⟩; obtain ⟨A1, k1, m1, rfl⟩ := hu1.form0; obtain ⟨C1, c1, d1, rfl⟩ := hv1.form0; have HM2 := Lib.hid (Mm.ext HM1.out hx1); have E2 := Lib.hid (E1.out.ext hx1); clear HM1 hx1)
    | (have hh := HM2; clear hh; go_at_call 86; refine (memo_doI HM2.out E2.out.size o1 rfl hu1 hv1 _ 1 rfl 1 hs0.out (by decide) aw10a.1 aw10a.2).mono ?_; rintro r w3 ⟨rfl, ho2, hm2⟩; have HM3 := Lib.hid hm2; have E3 := Lib.hid (E2.out.then ho2 (fun i hi h => by omega)); clear hm2 HM2 ho2)
    | (have hh := HM3; clear hh; go_at_call 132; refine (law10_opI _ 3 [97] [99] (by decide) (by decide) _ _ _ rfl rfl rfl).mono ?_; rintro r w4 ⟨u2, v2, rfl, hx2, hu2, hv2⟩; obtain ⟨A2, k2, m2, rfl⟩ := hu2.form0; obtain ⟨C2, c2, d2, rfl⟩ := hv2.form0; have HM4 := Lib.hid (Mm.ext HM3.out hx2); have E4 := Lib.hid (E3.out.ext hx2); clear HM3 hx2)
    | (have hh := HM4; clear hh; go_at_call 86; refine (memo_doI HM4.out E4.out.size o2 rfl hu2 hv2 _ 2 rfl 1 hs1.out (by decide) aw10b.1 aw10b.2).mono ?_; rintro r w5 ⟨rfl, ho4, hm4⟩; have HM5 := Lib.hid hm4; have E5 := Lib.hid (E4.out.then ho4 (fun i hi h => by omega)); clear hm4 HM4 ho4)
    | (have hh := HM5; clear hh; go_at_call 132; refine (law10_opI _ 2 [98] [121] (by decide) (by decide) _ _ _ rfl rfl rfl).mono ?_; rintro r w6 ⟨u3, v3, rfl, hx3, hu3, hv3⟩; obtain ⟨A3, k3, m3, rfl⟩ := hu3.form0; obtain ⟨C3, c3, d3, rfl⟩ := hv3.form0; have HM6 := Lib.hid (Mm.ext HM5.out hx3); have E6 := Lib.hid (E5.out.ext hx3); clear HM5 hx3)
    | (have hh := HM6; clear hh; go_at_call 86; refine (memo_doI HM6.out E6.out.size o3 rfl hu3 hv3 _ 3 rfl 2 hs2.out (by decide) aw10c.1 aw10c.2).mono ?_; rintro r w7 ⟨rfl, ho6, hm6⟩; have HM7 := Lib.hid hm6; have E7 := Lib.hid (E6.out.then ho6 (fun i hi h => by omega)); clear hm6 HM6 ho6)
    | (have hh := HM7; clear hh; go_at_call 73; refine (memo_getI (Mm.ext HM7.out (Ext.alloc1 _ _)) [97] (bytes1 w7 97) _ 1 rfl aw10d.1).mono ?_; rintro r w8 ⟨x7, rfl, hx7, hb7⟩; obtain ⟨A7, k7, m7, rfl⟩ := hb7.form0; have HM8 := Lib.hid (Mm.ext (Mm.ext HM7.out (Ext.alloc1 _ _)) hx7); have E8 := Lib.hid ((E7.out.alloc _).ext hx7); clear HM7 )
    | (have hh := HM8; clear hh; go_at_call 73; refine (memo_getI (Mm.ext HM8.out (Ext.alloc1 _ _)) [97] (bytes1 w8 97) _ 3 rfl aw10d.2.1).mono ?_; rintro r w9 ⟨x8, rfl, hx8, hb8⟩; obtain ⟨A8, k8, m8, rfl⟩ := hb8.form0; have HM9 := Lib.hid (Mm.ext (Mm.ext HM8.out (Ext.alloc1 _ _)) hx8); have E9 := Lib.hid ((E8.out.alloc _).ext hx8); clear HM8 )
    | (have hh := HM9; clear hh; go_at_call 73; refine (memo_getI (Mm.ext HM9.out (Ext.alloc1 _ _)) [98] (bytes1 w9 98) _ 2 rfl aw10d.2.2.1).mono ?_; rintro r w10 ⟨x9, rfl, hx9, hb9⟩; obtain ⟨A9, k9, m9, rfl⟩ := hb9.form0; have HM10 := Lib.hid (Mm.ext (Mm.ext HM9.out (Ext.alloc1 _ _)) hx9); have E10 := Lib.hid ((E9.out.alloc _).ext hx9); clear HM9 )
    | (have hh := HM10; clear hh; go_at_call 73; refine (memo_getI (Mm.ext HM10.out (Ext.alloc1 _ _)) [99] (bytes1 w10 99) _ 9 rfl aw10d.2.2.2).mono ?_; rintro r w11 ⟨x10, rfl, hx10, hb10⟩; obtain ⟨A10, k10, m10, rfl⟩ := hb10.form0; have HM11 := Lib.hid (Mm.ext (Mm.ext HM10.out (Ext.alloc1 _ _)) hx10); have E11 := Lib.hid ((E10.out.alloc _).ext hx10); have q7 := str_of ((((((hb7.alloc _).ext hx8).alloc _).ext hx9).alloc _).ext hx10); clear HM10))
  go_ret
  exact ⟨rfl, E11.out⟩
end Go.Proofs.Yteaanagljmcidaa
