/- law14: entry, awake. -/
import Derived.Test.YteaanagljmcidaaFew14
import Derived.Test.YteaanagljmcidaaMeAt
import Derived.Test.YteaanagljmcidaaEntry8
namespace Go.Proofs.Yteaanagljmcidaa
open Go.RowKit

attribute [local go_sem ↓] Go.wp_at_zero Go.wp_at_succ

theorem law14_entry (w : World) (l m : List UInt8) (hl : l.length ≤ 1000000) (hm : m.length ≤ 1000000) : Calls Try.prog 103 #[.string (strOf l), .string (strOf m)] w fun r w' => ∃ u v, r = .returned (.agg #[u, u64V (⟨⟨l, 1, 2⟩, m⟩ : Ent).key.seq, byteV (⟨⟨l, 1, 2⟩, m⟩ : Ent).key.kind, v]) ∧ Ext w w' ∧ Bs w' (fun b => w.heap.size ≤ b) u l ∧ Bs w' (fun b => w.heap.size ≤ b) v m := by
  have hcv := fun W => Lib.run_convert_string_bytes (P := Try.prog) W 9 27 5 (strOf l) Try.underlying9 Try.underlying27 Try.underlying5
  have hcm := fun W => Lib.run_convert_string_bytes (P := Try.prog) W 9 27 5 (strOf m) Try.underlying9 Try.underlying27 Try.underlying5
  have hx := conv_ext (w.alloc (.cells #[.slice none 0 0, .int .u64 0, .int .u8 0, .slice none 0 0] 32)) l
  have hb := conv_bs (w.alloc (.cells #[.slice none 0 0, .int .u64 0, .int .u8 0, .slice none 0 0] 32)) l hl
  have hy := conv_ext (Lib.bytesWorld (w.alloc (.cells #[.slice none 0 0, .int .u64 0, .int .u8 0, .slice none 0 0] 32)) 5 (strOf l)) m
  have hc := conv_bs (Lib.bytesWorld (w.alloc (.cells #[.slice none 0 0, .int .u64 0, .int .u8 0, .slice none 0 0] 32)) 5 (strOf l)) m hm
  rw [World.size_alloc] at hb
  rw [Lib.bytesWorld_size, World.size_alloc] at hc
  have hz := hy.blk (hx.blk (blk_new w (.cells #[.slice none 0 0, .int .u64 0, .int .u8 0, .slice none 0 0] 32)) (fun f => f)) (fun f => f)
  obtain ⟨z0, z1, z2, z3, zf⟩ := cells4 hz
  have Hs1 := Lib.hid (Lib.bytesWorld_size (w.alloc (.cells #[.slice none 0 0, .int .u64 0, .int .u8 0, .slice none 0 0] 32)) 5 (strOf l))
  have hs1 := Lib.bytesWorld_size (w.alloc (.cells #[.slice none 0 0, .int .u64 0, .int .u8 0, .slice none 0 0] 32)) 5 (strOf l)
  rw [World.size_alloc] at hs1
  generalize strOf l = sl at *
  generalize strOf m = sm at *
  have Z := Lib.hid hz
  have Hx := Lib.hid hx
  have Hb := Lib.hid hb
  have Hy := Lib.hid hy
  have Hc := Lib.hid hc
  clear hx hb hz hy hc
  go_enter Try.func103, Try.ntmps103
  go_wp2
  generalize Lib.bytesWorld (w.alloc (.cells #[.slice none 0 0, .int .u64 0, .int .u8 0, .slice none 0 0] 32)) 5 sl = W1 at *
  generalize grownCap (w.alloc (.cells #[.slice none 0 0, .int .u64 0, .int .u8 0, .slice none 0 0] 32)) sl.size 0 5 = g at *
  generalize Lib.bytesWorld W1 5 sm = W2 at *
  generalize grownCap W1 sm.size 0 5 = g2 at *
  obtain ⟨r0, r1, r2, r3, -⟩ := cells4 (blk_set4 Z.out (.slice (some ⟨w.heap.size + 1, 0, none⟩) sl.size g) (.int .u64 1) (.int .u8 2) (.slice (some ⟨w.heap.size + 1 + 1, 0, none⟩) sm.size g2))
  have ho := out_set4 (S := fun k => k = w.heap.size) (Out.refl _ W2) (g := w.heap.size) (fun _ => rfl) (.slice (some ⟨w.heap.size + 1, 0, none⟩) sl.size g) (.int .u64 1) (.int .u8 2) (.slice (some ⟨w.heap.size + 1 + 1, 0, none⟩) sm.size g2)
  have hx2 : Ext w W2 := ((Ext.alloc1 w _).trans Hx.out).trans Hy.out
  refine bodyPost_ret (v := .agg #[.slice (some ⟨w.heap.size + 1, 0, none⟩) sl.size g, .int .u64 1, .int .u8 2, .slice (some ⟨w.heap.size + 1 + 1, 0, none⟩) sm.size g2]) (by simp [results, Try.results103, go_sem, r0, r1, r2, r3]) rfl ⟨_, _, rfl, out_set4 hx2 (by simp) _ _ _ _, ?_, ?_⟩
  · exact ((Hb.out.ext Hy.out).out ho (fun b _ hb => by omega)).mono (fun b hb _ => by omega) (.inl (by decide))
  · exact (Hc.out.out ho (fun b _ hb => by omega)).mono (fun b hb _ => by omega) (.inl (by decide))

theorem law14_entryI (w : World) (l m : List UInt8) (hl : l.length ≤ 1000000) (hm : m.length ≤ 1000000) (s t : ByteArray) (hs : s = strOf l) (ht : t = strOf m) : Calls Try.prog 103 #[.string s, .string t] w fun r w' => ∃ u v, r = .returned (.agg #[u, u64V (⟨⟨l, 1, 2⟩, m⟩ : Ent).key.seq, byteV (⟨⟨l, 1, 2⟩, m⟩ : Ent).key.kind, v]) ∧ Ext w w' ∧ Bs w' (fun b => w.heap.size ≤ b) u l ∧ Bs w' (fun b => w.heap.size ≤ b) v m := by
  subst hs ht; exact law14_entry w l m hl hm

/-- Two entries, two lists, in one block. -/
theorem Sl.two {α : Type} {c : Codec α} {w : World} {F : Nat → Prop} {g : Nat} {cs : Array Value} {t : TypeId} (h : w.heap[g]? = some (.cells cs t)) {x y : α} {xa xb : List Value} (hc : cs.toList = xa ++ xb) (hx : c.rep w F xa x) (hy : c.rep w F xb y) (hg : F g) (hb : 2 ≤ c.bound) : Sl c w F (.slice (some ⟨g, 0, none⟩) 2 2) [x, y] := by
  have hla := c.len hx
  have hlb := c.len hy
  have hcell : ∀ j, w.cell? ⟨g, j, none⟩ = (xa ++ xb)[j]? := fun j => by rw [blk_cell h, ← hc]; simp
  refine ⟨_, 2, rfl, by simp, by unfold maxLen; omega, hb, (fun h => by cases h), fun i hi => ?_⟩
  have hi2 : i < 2 := hi
  rcases (show i = 0 ∨ i = 1 by omega) with rfl | rfl
  · refine ⟨g, 0, xa, rfl, hg, ⟨fun j u hu => ?_, fun j _ => blk_free h _⟩, hx⟩
    have hj := (List.getElem?_eq_some_iff.1 hu).1
    rw [show 0 + 0 * c.size + j = j by omega, hcell, List.getElem?_append_left hj]; exact hu
  · refine ⟨g, 0, xb, rfl, hg, ⟨fun j u hu => ?_, fun j _ => blk_free h _⟩, hy⟩
    rw [show 0 + 1 * c.size + j = xa.length + j by omega, hcell, List.getElem?_append_right (by omega)]
    simpa using hu

def eA1 : Ent := ⟨⟨[97], 1, 2⟩, []⟩
def eB1 : Ent := ⟨⟨[98], 1, 2⟩, []⟩
def eC1 : Ent := ⟨⟨[99], 1, 2⟩, [49]⟩
def eC2 : Ent := ⟨⟨[99], 1, 2⟩, [50]⟩
theorem aw14 : allE [[eA1, eC1], [eB1, eC2]] = [eA1, eB1, eC1] := by decide
theorem aw14s : ∀ l ∈ [[eA1, eC1], [eB1, eC2]], SortedE l := by
  intro l hl
  simp only [List.mem_cons, List.not_mem_nil, or_false] at hl
  rcases hl with rfl | rfl <;> (unfold SortedE; decide)
theorem aw14k : aheadN [eA1, eB1, eC1] eB1.key = 1 := by decide
theorem field_key14 (a b c d : Value) (w : World) : (Instr.field 32 (.agg #[a, b, c, d]) 0).run Try.prog w = .ok (.agg #[a, b, c]) w := by kernel_rfl
theorem str_of14 {w : World} {F : Nat → Prop} {v : Value} {l : List UInt8} (h : Bs w F v l) : (convert 27 9 v).run Try.prog w = .ok (.string (strOf l)) w :=
  run_bytes_string h Try.underlying27 Try.underlying5 Try.underlying9

theorem aw_lists {w w1 w2 w3 w4 : World} {U1 V1 U2 V2 U3 V3 U4 V4 : Value} (x1 : Ext w w1) (u1 : Bs w1 (fun b => w.heap.size ≤ b) U1 eA1.key.user) (v1 : Bs w1 (fun b => w.heap.size ≤ b) V1 eA1.value)
    (x2 : Ext w1 w2) (u2 : Bs w2 (fun b => w1.heap.size ≤ b) U2 eC1.key.user) (v2 : Bs w2 (fun b => w1.heap.size ≤ b) V2 eC1.value)
    (x3 : Ext (w2.alloc (.cells #[U1, u64V 1, byteV 2, V1, U2, u64V 1, byteV 2, V2] 32)) w3) (u3 : Bs w3 (fun b => (w2.alloc (.cells #[U1, u64V 1, byteV 2, V1, U2, u64V 1, byteV 2, V2] 32)).heap.size ≤ b) U3 eB1.key.user) (v3 : Bs w3 (fun b => (w2.alloc (.cells #[U1, u64V 1, byteV 2, V1, U2, u64V 1, byteV 2, V2] 32)).heap.size ≤ b) V3 eB1.value)
    (x4 : Ext w3 w4) (u4 : Bs w4 (fun b => w3.heap.size ≤ b) U4 eC2.key.user) (v4 : Bs w4 (fun b => w3.heap.size ≤ b) V4 eC2.value) :
    Sl lstC ((w4.alloc (.cells #[U3, u64V 1, byteV 2, V3, U4, u64V 1, byteV 2, V4] 32)).alloc (.cells #[.slice (some ⟨w2.heap.size, 0, none⟩) 2 2, .slice (some ⟨w4.heap.size, 0, none⟩) 2 2] 43)) (fun b => w.heap.size ≤ b) (.slice (some ⟨w4.heap.size + 1, 0, none⟩) 2 2) [[eA1, eC1], [eB1, eC2]] := by
  have s1 := x1.size
  have s2 := x2.size
  have s3 := x3.size
  have s4 := x4.size
  simp only [World.size_alloc] at s3 u3 v3
  have xB := ((x3.ext x4).alloc (.cells #[U3, u64V 1, byteV 2, V3, U4, u64V 1, byteV 2, V4] 32)).alloc (.cells #[.slice (some ⟨w2.heap.size, 0, none⟩) 2 2, .slice (some ⟨w4.heap.size, 0, none⟩) 2 2] 43)
  have xA := (Ext.alloc1 w2 (.cells #[U1, u64V 1, byteV 2, V1, U2, u64V 1, byteV 2, V2] 32)).ext xB
  have x3' := ((x4.alloc (.cells #[U3, u64V 1, byteV 2, V3, U4, u64V 1, byteV 2, V4] 32)).alloc (.cells #[.slice (some ⟨w2.heap.size, 0, none⟩) 2 2, .slice (some ⟨w4.heap.size, 0, none⟩) 2 2] 43))
  have x4' := ((Ext.alloc1 w4 (.cells #[U3, u64V 1, byteV 2, V3, U4, u64V 1, byteV 2, V4] 32)).alloc (.cells #[.slice (some ⟨w2.heap.size, 0, none⟩) 2 2, .slice (some ⟨w4.heap.size, 0, none⟩) 2 2] 43))
  have low : ∀ {W : World} {U : Value} {l : List UInt8} {n : Nat}, Bs W (fun b => n ≤ b) U l → w.heap.size ≤ n → Bs W (fun b => w.heap.size ≤ b) U l := fun h hn => h.mono (fun b hb _ => Nat.le_trans hn hb) (.inl (by decide))
  have hA := Sl.two (c := entC) (F := fun b => w.heap.size ≤ b) (xB.blk (blk_new w2 _) (fun f => f)) (x := eA1) (y := eC1) (xa := [U1, u64V 1, byteV 2, V1]) (xb := [U2, u64V 1, byteV 2, V2]) rfl ⟨_, _, rfl, (u1.ext x2).ext xA, (v1.ext x2).ext xA⟩ ⟨_, _, rfl, low (u2.ext xA) s1, low (v2.ext xA) s1⟩ (by omega) (by decide)
  have hB := Sl.two (c := entC) (F := fun b => w.heap.size ≤ b) (blk_alloc (blk_new w4 (.cells #[U3, u64V 1, byteV 2, V3, U4, u64V 1, byteV 2, V4] 32)) (.cells #[.slice (some ⟨w2.heap.size, 0, none⟩) 2 2, .slice (some ⟨w4.heap.size, 0, none⟩) 2 2] 43)) (x := eB1) (y := eC2) (xa := [U3, u64V 1, byteV 2, V3]) (xb := [U4, u64V 1, byteV 2, V4]) rfl ⟨_, _, rfl, low (u3.ext x3') (by omega), low (v3.ext x3') (by omega)⟩ ⟨_, _, rfl, low (u4.ext x4') (by omega), low (v4.ext x4') (by omega)⟩ (by omega) (by decide)
  exact Sl.two (c := lstC) (blk_at (n := w4.heap.size + 1) (by simp)) (xa := [_]) (xb := [_]) rfl ⟨_, rfl, hA⟩ ⟨_, rfl, hB⟩ (by omega) (by decide)

set_option maxRecDepth 100000 in
set_option maxHeartbeats 4000000 in
theorem law14_awake (w : World) : Calls Try.prog 44 #[] w fun e w' => e = .returned (.bool true) ∧ Ext w w' := by
  have hfk := field_key14
  have hs1 : ((strOf [49]).toList == [49]) = true := by rw [strOf_toList]; decide
  have HS := Lib.hid aw14s
  go_enter Try.func44, Try.ntmps44
  obtain ⟨mk0, -⟩ : ∃ x : Nat, x = 0 := ⟨0, rfl⟩
  go_wp2_with (first
    | (have hh := mk0; clear hh; go_at_call 103; refine (law14_entryI _ [97] [] (by decide) (by decide) _ _ rfl rfl).mono ?_; rintro r w1 ⟨u1, v1, rfl, hx1, hu1, hv1⟩; obtain ⟨U1, k1, m1, rfl⟩ := hu1.form0; obtain ⟨V1, p1, q1, rfl⟩ := hv1.form0; have HU1 := Lib.hid hu1; have HV1 := Lib.hid hv1; have HX1 := Lib.hid hx1; have hz1 := hx1.size; clear hu1 hv1 hx1 mk0; obtain ⟨mk1, -⟩ : ∃ x : Nat, x = 0 := ⟨0, rfl⟩)
    | (have hh := mk1; clear hh; go_at_call 103; refine (law14_entryI _ [99] [49] (by decide) (by decide) _ _ rfl rfl).mono ?_; rintro r w2 ⟨u2, v2, rfl, hx2, hu2, hv2⟩; obtain ⟨U2, k2, m2, rfl⟩ := hu2.form0; obtain ⟨V2, p2, q2, rfl⟩ := hv2.form0; have HU2 := Lib.hid hu2; have HV2 := Lib.hid hv2; have HX2 := Lib.hid hx2; have hz2 := hx2.size; clear hu2 hv2 hx2 mk1; obtain ⟨mk2, -⟩ : ∃ x : Nat, x = 0 := ⟨0, rfl⟩)
    | (have hh := mk2; clear hh; go_at_call 103; refine (law14_entryI _ [98] [] (by decide) (by decide) _ _ rfl rfl).mono ?_; rintro r w3 ⟨u3, v3, rfl, hx3, hu3, hv3⟩; obtain ⟨U3, k3, m3, rfl⟩ := hu3.form0; obtain ⟨V3, p3, q3, rfl⟩ := hv3.form0; have HU3 := Lib.hid hu3; have HV3 := Lib.hid hv3; have HX3 := Lib.hid hx3; have hz3 := hx3.size; simp only [World.size_alloc] at hz3; clear hu3 hv3 hx3 mk2; obtain ⟨mk3, -⟩ : ∃ x : Nat, x = 0 := ⟨0, rfl⟩)
    | (have hh := mk3; clear hh; go_at_call 103; refine (law14_entryI _ [99] [50] (by decide) (by decide) _ _ rfl rfl).mono ?_; rintro r w4 ⟨u4, v4, rfl, hx4, hu4, hv4⟩; obtain ⟨U4, k4, m4, rfl⟩ := hu4.form0; obtain ⟨V4, p4, q4, rfl⟩ := hv4.form0; have HU4 := Lib.hid hu4; have HV4 := Lib.hid hv4; have HX4 := Lib.hid hx4; have hz4 := hx4.size; clear hu4 hv4 hx4 mk3)
    | (go_at_call 47; refine (new_ok (F := fun b => w.heap.size ≤ b) (ls := [[eA1, eC1], [eB1, eC2]]) (aw_lists HX1.out HU1.out HV1.out HX2.out HU2.out HV2.out HX3.out HU3.out HV3.out HX4.out HU4.out HV4.out) (by decide) (by decide) HS.out).mono ?_; rintro e w5 ⟨hx5, C, cv, rfl, hc5, hh5⟩; have HX5 := Lib.hid hx5; have HC5 := Lib.hid hc5; have HH5 := Lib.hid hh5; have hz5 := hx5.size; simp only [World.size_alloc] at hz5; clear hx5 hc5 hh5)
    | (go_at_call 51; refine (at_last HS.out HC5.out).mono ?_; intro e w6 h; obtain ⟨rfl, ho6, hc6⟩ := h.yes (by rw [aw14]; decide); rw [aw14] at hc6; have HO6 := Lib.hid ho6; have HC6 := Lib.hid hc6; have hz6 := ho6.size; clear h ho6 hc6)
    | (go_at_call 57; refine (at_hereE HS.out (i := 2) (e := eC1) (by rw [aw14]; rfl) HC6.out).mono ?_; rintro e w7 ⟨u7, v7, rfl, hx7, hu7, hv7⟩; simp only [Option.getD_some, Option.isSome_some] at *; obtain ⟨U7, k7, m7, rfl⟩ := hu7.form0; obtain ⟨V7, p7, q7, rfl⟩ := hv7.form0; obtain ⟨t0, t1, t2, t3, -⟩ := cells4 (blk_new w7 (.cells #[.slice U7 k7 m7, u64V eC1.key.seq, byteV eC1.key.kind, .slice V7 p7 q7] 32)); have sv := str_of14 (hv7.alloc (.cells #[.slice U7 k7 m7, u64V eC1.key.seq, byteV eC1.key.kind, .slice V7 p7 q7] 32)); have hs1' : ((strOf eC1.value).toList == [49]) = true := hs1; have HX7 := Lib.hid (hx7.alloc (.cells #[.slice U7 k7 m7, u64V eC1.key.seq, byteV eC1.key.kind, .slice V7 p7 q7] 32)); have hz7 := HX7.out.size; clear hx7 hu7 hv7; obtain ⟨mk4, -⟩ : ∃ x : Nat, x = 0 := ⟨0, rfl⟩)
    | (have hh := mk4; clear hh; go_at_call 103; refine (law14_entryI _ [98] [] (by decide) (by decide) _ _ rfl rfl).mono ?_; rintro r w8 ⟨u8, v8, rfl, hx8, hu8, hv8⟩; obtain ⟨U8, k8, m8, rfl⟩ := hu8.form0; obtain ⟨V8, p8, q8, rfl⟩ := hv8.form0; have HU8 := Lib.hid hu8; have HX8 := Lib.hid hx8; have hz8 := hx8.size; clear hu8 hv8 hx8 mk4)
    | (go_at_call 52; refine (at_from (k := eB1.key) HS.out ((HC6.out.ext HX7.out).ext HX8.out) HU8.out (fun b hb hb2 => by have := HC6.out.lt b (.inr hb); omega)).mono ?_; intro e w9 h; rw [aw14, aw14k] at h; obtain ⟨rfl, ho9, hc9⟩ := h.yes (by rw [aw14]; decide); have HO9 := Lib.hid ho9; have HC9 := Lib.hid hc9; have hz9 := ho9.size; clear h ho9 hc9; obtain ⟨mk5, -⟩ : ∃ x : Nat, x = 0 := ⟨0, rfl⟩)
    | (have hh := mk5; clear hh; go_at_call 56; refine (at_prev (i := 1) HS.out (by rw [aw14]; decide) HC9.out).mono ?_; intro e wa h; obtain ⟨rfl, hoa, hca⟩ := h.yes (by rw [aw14]; decide); have HOa := Lib.hid hoa; have HCa := Lib.hid hca; have hza := hoa.size; clear h hoa hca mk5; obtain ⟨mk6, -⟩ : ∃ x : Nat, x = 0 := ⟨0, rfl⟩)
    | (have hh := mk6; clear hh; go_at_call 56; refine (at_prev (i := 0) HS.out (by rw [aw14]; decide) HCa.out).mono ?_; intro e wb h; obtain ⟨rfl, hob, hcb⟩ := h.no (by rw [aw14]; decide); have HOb := Lib.hid hob; have HCb := Lib.hid hcb; have hzb := hob.size; clear h hob hcb mk6)
    | (go_at_call 49; refine (me_all HCb.out HS.out (by decide) (by rw [aw14]; decide)).mono ?_; rw [aw14]; rintro e wc ⟨vc, rfl, hxc, hoc⟩; obtain ⟨Ac, cc, rfl, -⟩ := hoc.form; have HXc := Lib.hid hxc; clear hxc hoc))
  go_ret
  have hhot : ∀ b, b < w.heap.size → ¬ hot C cv b := fun b hb hh => by have h5 := HH5.out b hh; simp only [World.size_alloc] at h5; omega
  have e5 : Ext w w5 := (((((((HX1.out.ext HX2.out).alloc _).ext HX3.out).ext HX4.out).alloc _).alloc _).ext HX5.out)
  exact ⟨rfl, (((((((e5.then HO6.out (fun b hb h => hhot b hb h)).ext HX7.out).ext HX8.out).then HO9.out (fun b hb h => hhot b hb h)).then HOa.out (fun b hb h => hhot b hb h)).then HOb.out (fun b hb h => hhot b hb h)).ext HXc.out)⟩
end Go.Proofs.Yteaanagljmcidaa
