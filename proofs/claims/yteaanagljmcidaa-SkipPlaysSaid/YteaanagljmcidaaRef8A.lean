/- ref08: Size, From, Before. -/
import Derived.Test.YteaanagljmcidaaSkM
namespace Go.Proofs.Yteaanagljmcidaa
open Go.RowKit

attribute [local go_sem ↓] Go.wp_at_zero Go.wp_at_succ

theorem fits54 : Fits Try.prog 54 3 intC.size 8 := fits_of Try.underlying54 (by decide) (by kernel_rfl : (Try.prog.info? 3).map (fun i => (i.zero, i.size, i.bytes)) = some (some (.int .i64 0), 1, 8)) rfl

theorem Sl.drop {α : Type} {c : Codec α} {w : World} {F : Nat → Prop} {A : Option Addr} {n cap : Nat} {l : List α} (h : Sl c w F (.slice A n cap) l) (k : Nat) (hk : k ≤ l.length) : Sl c w F (.slice (if cap = k then A else A.map (·.add (k * c.size))) (n - k) (cap - k)) (l.drop k) := by
  obtain ⟨A', cap', hv, h1, h2, h3, h4, h5⟩ := h
  injection hv with e1 e2 e3
  subst e1 e2 e3
  refine ⟨_, _, by rw [List.length_drop], by rw [List.length_drop]; omega, by omega, by rw [List.length_drop]; omega, fun hn => ?_, fun i hi => ?_⟩
  · by_cases he : cap = k
    · omega
    · rw [if_neg he] at hn
      have := h4 (Option.map_eq_none_iff.1 hn); omega
  · rw [List.length_drop] at hi
    obtain ⟨b, off, cs, hA, hb, hat, hr⟩ := h5 (k + i) (by omega)
    refine ⟨b, off + k * c.size, cs, ?_, hb, ?_, by rw [List.getElem_drop]; exact hr⟩
    · rw [if_neg (by omega), hA]; simp [Addr.add]
    · have e : off + k * c.size + i * c.size = off + (k + i) * c.size := by rw [Nat.add_mul, Nat.add_assoc]
      rw [e]; exact hat

/-- What the document's Size adds up. -/
def sizeL : List Ent → Int
  | [] => 0
  | e :: l => sizeE e + sizeL l
theorem sizeL_append : ∀ a b : List Ent, sizeL (a ++ b) = sizeL a + sizeL b
  | [], b => by simp [sizeL]
  | x :: a, b => by rw [List.cons_append, sizeL, sizeL, sizeL_append a b]; omega
theorem sizeL_fst : ∀ m : List (Ent × Nat), sizeL (m.map (·.1)) = sizeM m
  | [] => rfl
  | x :: m => by rw [List.map_cons, sizeL, sizeM, sizeL_fst m]
def SmallE (l : List Ent) : Prop := ∀ e ∈ l, e.key.user.length ≤ 1000 ∧ e.value.length ≤ 1000
theorem sizeL_range : ∀ {l : List Ent}, SmallE l → 0 ≤ sizeL l ∧ sizeL l ≤ l.length * 2016
  | [], _ => by simp [sizeL]
  | x :: l, h => by
    have ih := sizeL_range (l := l) fun y hy => h y (List.mem_cons_of_mem _ hy)
    have := h x List.mem_cons_self
    rw [sizeL, List.length_cons]
    unfold sizeE
    omega
theorem sizeL_take {l : List Ent} {i : Nat} (h : i < l.length) : sizeL (l.take (i + 1)) = sizeL (l.take i) + ((l[i].key.user.length : Int) + l[i].value.length + 16) := by
  rw [List.take_succ_eq_append_getElem h, sizeL_append, sizeL, sizeL]; unfold sizeE; omega
theorem SmallE.take {l : List Ent} (h : SmallE l) (i : Nat) : SmallE (l.take i) := fun e he => h e (List.mem_of_mem_take he)

set_option maxRecDepth 100000 in
set_option maxHeartbeats 1000000 in
theorem r8_size (w : World) {F : Nat → Prop} {x : Value} (l : List Ent) (hx : Sl entC w F x l) (hs : SmallE l) (hl : l.length ≤ 1000000) :
    Calls Try.prog 41 #[x] w fun e w' => e = .returned (.int .i64 (sizeL l)) ∧ Ext w w' := by
  obtain ⟨A, n, rfl, -⟩ := hx.form
  have Hx := Lib.hid hx
  have Hs := Lib.hid hs
  clear hx hs
  go_enter Try.func41, Try.ntmps41
  go_wp2
  go_loopw [8, 3] (fun s8 s3 wr => ∃ i : Nat, i ≤ l.length ∧ s8 = .int .i64 i ∧ s3 = .int .i64 (sizeL (l.take i)) ∧ Ext w wr) (fun s8 _ _ => l.length - (intOf s8).toNat)
  case atStart => exact ⟨0, Nat.zero_le _, rfl, rfl, Out.refl _ _⟩
  case round =>
    obtain ⟨i, hi, rfl, rfl, hx⟩ := hrel
    by_cases hlt : i < l.length
    · obtain ⟨b1, o1, u1, v1, hA, -, c0, c1, c2, c3, hu, hv⟩ := (Hx.out.ext hx).ent i hlt
      subst hA
      obtain ⟨U, n1, rfl, -⟩ := hu.form
      obtain ⟨V, n2, rfl, -⟩ := hv.form
      have h1 := Hs.out _ (List.getElem_mem hlt)
      have h2 := sizeL_range (Hs.out.take i)
      have h3 : (l.take i).length ≤ l.length := by rw [List.length_take]; omega
      have h4 := sizeL_take hlt
      have H4 := Lib.hid h4
      obtain ⟨z0, z1, z2, z3, -⟩ := cells4 (blk_new wr (.cells #[.slice U l[i].key.user.length n1, u64V l[i].key.seq, byteV l[i].key.kind, .slice V l[i].value.length n2] 32))
      have Hx2 := Lib.hid hx
      generalize sizeL (l.take i) = s at *
      clear hu hv h4 hx
      go_wp2
      go_roundw
      case rel => exact ⟨i + 1, by omega, by go_num, by rw [H4.out], Hx2.out.alloc _⟩
      case measure => simp [intOf]; omega
    · obtain rfl : i = l.length := by omega
      rw [List.take_length]
      go_wp2
      go_ret
      exact ⟨rfl, hx⟩

/-- What the document's From and Before tell: it leans on the list's own blocks. -/
def ToldR (w : World) (F : Nat → Prop) (o : Option Ent) (x : Ending) (w' : World) : Prop :=
  ∃ u v, x = .returned (.tuple #[.agg #[u, u64V (o.getD zeroE).key.seq, byteV (o.getD zeroE).key.kind, v], .bool o.isSome]) ∧ Ext w w' ∧ Bs w' F u (o.getD zeroE).key.user ∧ Bs w' F v (o.getD zeroE).value

theorem fromE_of {l : List Ent} {k : Key} {i : Nat} (h : i < l.length) (hb : ∀ j (_ : j < i), kless (l[j]'(by omega)).key k = true) (hi : kless l[i].key k = false) : fromE l k = some l[i] := by
  unfold fromE
  rw [List.find?_eq_some_iff_getElem]
  refine ⟨by rw [← kless_eq, hi]; rfl, i, h, rfl, fun j hj => ?_⟩
  rw [← kless_eq, hb j hj]; rfl
theorem fromE_none {l : List Ent} {k : Key} (hb : ∀ j (h : j < l.length), kless l[j].key k = true) : fromE l k = none := by
  unfold fromE
  rw [List.find?_eq_none]
  intro x hx
  obtain ⟨j, hj, rfl⟩ := List.getElem_of_mem hx
  rw [← kless_eq, hb j hj]; decide
theorem beforeE_succ {l : List Ent} {k : Key} {i : Nat} (h : i < l.length) : beforeE (l.take (i + 1)) k = if kless l[i].key k = true then some l[i] else beforeE (l.take i) k := by
  unfold beforeE
  rw [List.take_succ_eq_append_getElem h, List.filter_append, kless_eq]
  by_cases hc : kcmp l[i].key k < 0
  · simp [hc]
  · simp [hc]

set_option maxRecDepth 100000 in
set_option maxHeartbeats 1000000 in
theorem r8_from (w : World) {F G : Nat → Prop} {x u : Value} (l : List Ent) (k : Key) (hx : Sl entC w F x l) (hu : Bs w G u k.user) (hF : ∀ b, F b → b < w.heap.size) :
    Calls Try.prog 42 #[x, .agg #[u, u64V k.seq, byteV k.kind]] w (ToldR w F (fromE l k)) := by
  obtain ⟨A, n, rfl, -, -, hle, -⟩ := hx.form
  have hle : l.length ≤ 140737488355328 := hle
  obtain ⟨U, N, c, rfl⟩ := hu.form0
  have Hx := Lib.hid hx
  have Hu := Lib.hid hu
  have hw := (Ext.alloc1 w (.cells #[.slice U N c, u64V k.seq, byteV k.kind] 30)).alloc (.cells #[.slice none 0 0, .int .u64 0, .int .u8 0, .slice none 0 0] 32)
  have B0 := Lib.hid (blk_alloc (blk_new w (.cells #[.slice U N c, u64V k.seq, byteV k.kind] 30)) (.cells #[.slice none 0 0, .int .u64 0, .int .u8 0, .slice none 0 0] 32))
  have B1 := Lib.hid (blk_at (w := w.alloc (.cells #[.slice U N c, u64V k.seq, byteV k.kind] 30)) (o := .cells #[.slice none 0 0, .int .u64 0, .int .u8 0, .slice none 0 0] 32) (n := w.heap.size + 1) (by simp))
  have Hw := Lib.hid hw
  clear hx hu hw
  go_enter Try.func42, Try.ntmps42
  go_wp2
  go_loopw [10] (fun s10 wr => ∃ i : Nat, i ≤ l.length ∧ s10 = .int .i64 i ∧ Ext ((w.alloc (.cells #[.slice U N c, u64V k.seq, byteV k.kind] 30)).alloc (.cells #[.slice none 0 0, .int .u64 0, .int .u8 0, .slice none 0 0] 32)) wr ∧ ∀ j (h : j < l.length), j < i → kless l[j].key k = true) (fun s10 _ => l.length - (intOf s10).toNat)
  case atStart => exact ⟨0, Nat.zero_le _, rfl, Out.refl _ _, fun j _ h => absurd h (by omega)⟩
  case round =>
    obtain ⟨i, hi, rfl, hxr, hb⟩ := hrel
    have Hxr := Lib.hid hxr
    have Hb := Lib.hid hb
    have hsz := hxr.size
    simp only [World.size_alloc] at hsz
    clear hb
    by_cases hlt : i < l.length
    · obtain ⟨b1, o1, u1, v1, hA, -, c0, c1, c2, c3, hu, hv⟩ := ((Hx.out.ext Hw.out).ext hxr).ent i hlt
      subst hA
      obtain ⟨X, n1, q1, rfl⟩ := hu.form0
      obtain ⟨Y, n2, q2, rfl⟩ := hv.form0
      have hz := blk_new wr (.cells #[.slice X n1 q1, u64V l[i].key.seq, byteV l[i].key.kind, .slice Y n2 q2] 32)
      obtain ⟨z0, z1, z2, z3, -⟩ := cells4 hz
      obtain ⟨k0, k1, k2, -⟩ := cells3 (blk_alloc (hxr.blk B0.out (fun f => f)) (.cells #[.slice X n1 q1, u64V l[i].key.seq, byteV l[i].key.kind, .slice Y n2 q2] 32))
      have Hz := Lib.hid hz
      have Hx2 := Lib.hid hu
      have Hv2 := Lib.hid hv
      have Hk := Lib.hid (((Hu.out.ext Hw.out).ext hxr).ext (Ext.alloc1 wr (.cells #[.slice X n1 q1, u64V l[i].key.seq, byteV l[i].key.kind, .slice Y n2 q2] 32)))
      clear hu hv hz hxr
      by_cases hkl : kless l[i].key k = true
      · go_wp2_with (first | (go_at_call 60; refine (r3_less _ l[i].key k (Hx2.out.ext (Ext.alloc1 _ _)) Hk.out).mono ?_; rw [hkl]; rintro r w6 ⟨rfl, hx6⟩))
        go_roundw
        case rel => exact ⟨i + 1, by omega, by go_num, (Hxr.out.alloc _).ext hx6, fun j h hj => by
          by_cases e : j = i
          · subst e; exact hkl
          · exact Hb.out j h (by omega)⟩
        case measure => simp [intOf]; omega
      · have hkl : kless l[i].key k = false := by simpa using hkl
        have HR := Lib.hid (fromE_of hlt (fun j hj => Hb.out j (by omega) hj) hkl)
        go_wp2_with (first | (go_at_call 60; refine (r3_less _ l[i].key k (Hx2.out.ext (Ext.alloc1 _ _)) Hk.out).mono ?_; rw [hkl]; rintro r w6 ⟨rfl, hx6⟩; obtain ⟨f0, f1, f2, f3, -⟩ := cells4 (hx6.blk Hz.out (fun f => f)); have R6 := Lib.hid (hx6.blk (blk_alloc (Hxr.out.blk B1.out (fun f => f)) _) (fun f => f)); obtain ⟨g0, g1, g2, g3, gf⟩ := cells4 R6.out; have hx6 := Lib.hid hx6))
        obtain ⟨e0, e1, e2, e3, -⟩ := cells4 (blk_set4 R6.out (.slice X n1 q1) (u64V l[i].key.seq) (byteV l[i].key.kind) (.slice Y n2 q2))
        refine bodyPost_ret (v := .tuple #[.agg #[.slice X n1 q1, u64V l[i].key.seq, byteV l[i].key.kind, .slice Y n2 q2], .bool true]) (by simp [results, Try.results42, go_sem, e0, e1, e2, e3]) rfl ?_
        unfold ToldR
        rw [HR.out]
        have ho := out_set4 (S := fun b => b = w.heap.size + 1) (Out.refl _ _) (w' := w6) (g := w.heap.size + 1) (fun _ => rfl) (.slice X n1 q1) (u64V l[i].key.seq) (byteV l[i].key.kind) (.slice Y n2 q2)
        exact ⟨_, _, rfl, out_set4 (((Hw.out.ext Hxr.out).alloc _).ext hx6.out) (by omega) _ _ _ _, ((Hx2.out.ext (Ext.alloc1 _ _)).ext hx6.out).out ho (fun b _ hb e => by have := hF b hb; omega), ((Hv2.out.ext (Ext.alloc1 _ _)).ext hx6.out).out ho (fun b _ hb e => by have := hF b hb; omega)⟩
    · obtain rfl : i = l.length := by omega
      have HR := Lib.hid (fromE_none (l := l) (k := k) fun j h => Hb.out j h h)
      obtain ⟨r0, r1, r2, r3, rf⟩ := cells4 (hxr.blk B1.out (fun f => f))
      obtain ⟨e0, e1, e2, e3, -⟩ := cells4 (blk_set4 (hxr.blk B1.out (fun f => f)) (.slice none 0 0) (.int .u64 0) (.int .u8 0) (.slice none 0 0))
      clear hxr
      go_wp2
      refine bodyPost_ret (v := .tuple #[.agg #[.slice none 0 0, .int .u64 0, .int .u8 0, .slice none 0 0], .bool false]) (by simp [results, Try.results42, go_sem, e0, e1, e2, e3]) rfl ?_
      unfold ToldR
      rw [HR.out]
      exact ⟨_, _, rfl, out_set4 (Hw.out.ext Hxr.out) (by omega) _ _ _ _, Sl.nil _ _ _, Sl.nil _ _ _⟩

/-- Before's loop: the last one ahead so far stands in a cell block of its own. -/
structure BRel (w w2 wr : World) (F : Nat → Prop) (C : Nat) (E : Ent) (u v : Value) : Prop where
  out : Out (fun b => b = C) w2 wr
  blk : wr.heap[C]? = some (.cells #[u, u64V E.key.seq, byteV E.key.kind, v] 32)
  bu : Bs wr F u E.key.user
  bv : Bs wr F v E.value

set_option maxRecDepth 100000 in
set_option maxHeartbeats 1000000 in
theorem r8_before (w : World) {F G : Nat → Prop} {x u : Value} (l : List Ent) (k : Key) (hx : Sl entC w F x l) (hu : Bs w G u k.user) (hF : ∀ b, F b → b < w.heap.size) (hG : ∀ b, G b → b < w.heap.size) :
    Calls Try.prog 43 #[x, .agg #[u, u64V k.seq, byteV k.kind]] w (ToldR w F (beforeE l k)) := by
  obtain ⟨A, n, rfl, -, -, hle, -⟩ := hx.form
  have hle : l.length ≤ 140737488355328 := hle
  obtain ⟨U, N, c, rfl⟩ := hu.form0
  have Hx := Lib.hid hx
  have Hu := Lib.hid hu
  have hw := ((Ext.alloc1 w (.cells #[.slice U N c, u64V k.seq, byteV k.kind] 30)).alloc (.cells #[.slice none 0 0, .int .u64 0, .int .u8 0, .slice none 0 0] 32)).alloc (.cells #[.slice none 0 0, .int .u64 0, .int .u8 0, .slice none 0 0] 32)
  have B0 := Lib.hid (blk_alloc (blk_alloc (blk_new w (.cells #[.slice U N c, u64V k.seq, byteV k.kind] 30)) (.cells #[.slice none 0 0, .int .u64 0, .int .u8 0, .slice none 0 0] 32)) (.cells #[.slice none 0 0, .int .u64 0, .int .u8 0, .slice none 0 0] 32))
  have B1 := Lib.hid (blk_alloc (blk_at (w := w.alloc (.cells #[.slice U N c, u64V k.seq, byteV k.kind] 30)) (o := .cells #[.slice none 0 0, .int .u64 0, .int .u8 0, .slice none 0 0] 32) (n := w.heap.size + 1) (by simp)) (.cells #[.slice none 0 0, .int .u64 0, .int .u8 0, .slice none 0 0] 32))
  have B2 := Lib.hid (blk_at (w := (w.alloc (.cells #[.slice U N c, u64V k.seq, byteV k.kind] 30)).alloc (.cells #[.slice none 0 0, .int .u64 0, .int .u8 0, .slice none 0 0] 32)) (o := .cells #[.slice none 0 0, .int .u64 0, .int .u8 0, .slice none 0 0] 32) (n := w.heap.size + 2) (by simp))
  have Hw := Lib.hid hw
  obtain ⟨w2, hw2⟩ : ∃ w2, w2 = ((w.alloc (.cells #[.slice U N c, u64V k.seq, byteV k.kind] 30)).alloc (.cells #[.slice none 0 0, .int .u64 0, .int .u8 0, .slice none 0 0] 32)).alloc (.cells #[.slice none 0 0, .int .u64 0, .int .u8 0, .slice none 0 0] 32) := ⟨_, rfl⟩
  have hs2 : w2.heap.size = w.heap.size + 3 := by rw [hw2]; simp
  have Hw2 := Lib.hid hw2
  rw [← hw2] at B0 B1 B2 Hw
  clear hx hu hw hw2
  go_enter Try.func43, Try.ntmps43
  go_wp2
  rw [← Hw2.out]
  go_loopw [12, 7] (fun s12 s7 wr => ∃ (i : Nat) (x y : Value), i ≤ l.length ∧ s12 = .int .i64 i ∧ s7 = .bool (beforeE (l.take i) k).isSome ∧ BRel w w2 wr F (w.heap.size + 2) ((beforeE (l.take i) k).getD zeroE) x y) (fun s12 _ _ => l.length - (intOf s12).toNat)
  case atStart => exact ⟨0, _, _, Nat.zero_le _, rfl, rfl, Out.refl _ _, B2.out, Sl.nil _ _ _, Sl.nil _ _ _⟩
  case round =>
    obtain ⟨i, x, y, hi, rfl, rfl, hB⟩ := hrel
    have HB := Lib.hid hB
    have hsz := hB.out.size
    by_cases hlt : i < l.length
    · obtain ⟨b1, o1, u1, v1, hA, -, c0, c1, c2, c3, hu, hv⟩ := ((Hx.out.ext Hw.out).out hB.out (fun b _ hb e => by have := hF b hb; omega)).ent i hlt
      subst hA
      obtain ⟨X, n1, q1, rfl⟩ := hu.form0
      obtain ⟨Y, n2, q2, rfl⟩ := hv.form0
      have hz := blk_new wr (.cells #[.slice X n1 q1, u64V l[i].key.seq, byteV l[i].key.kind, .slice Y n2 q2] 32)
      obtain ⟨z0, z1, z2, z3, -⟩ := cells4 hz
      obtain ⟨k0, k1, k2, -⟩ := cells3 (blk_alloc (hB.out.blk B0.out (fun e => by omega)) (.cells #[.slice X n1 q1, u64V l[i].key.seq, byteV l[i].key.kind, .slice Y n2 q2] 32))
      have Hz := Lib.hid hz
      have Hx2 := Lib.hid hu
      have Hv2 := Lib.hid hv
      have Hk := Lib.hid (((Hu.out.ext Hw.out).out hB.out (fun b _ hb e => by have := hG b hb; omega)).ext (Ext.alloc1 wr (.cells #[.slice X n1 q1, u64V l[i].key.seq, byteV l[i].key.kind, .slice Y n2 q2] 32)))
      have Hbs := Lib.hid (beforeE_succ (k := k) hlt)
      clear hu hv hz hB
      by_cases hkl : kless l[i].key k = true
      · go_wp2_with (first | (go_at_call 60; refine (r3_less _ l[i].key k (Hx2.out.ext (Ext.alloc1 _ _)) Hk.out).mono ?_; rw [hkl]; rintro r w6 ⟨rfl, hx6⟩; obtain ⟨f0, f1, f2, f3, -⟩ := cells4 (hx6.blk Hz.out (fun f => f)); have R6 := Lib.hid (hx6.blk (blk_alloc HB.out.blk _) (fun f => f)); obtain ⟨g0, g1, g2, g3, gf⟩ := cells4 R6.out; have hx6 := Lib.hid hx6))
        go_roundw
        case rel =>
          have ho := out_set4 (S := fun b => b = w.heap.size + 2) (Out.refl _ w6) (g := w.heap.size + 2) (fun _ => rfl) (.slice X n1 q1) (u64V l[i].key.seq) (byteV l[i].key.kind) (.slice Y n2 q2)
          rw [if_pos hkl] at Hbs
          refine ⟨i + 1, .slice X n1 q1, .slice Y n2 q2, by omega, by go_num, by rw [Hbs.out]; rfl, ?_⟩
          rw [Hbs.out]
          exact ⟨((HB.out.out.alloc _).ext hx6.out).trans ho, blk_set4 R6.out _ _ _ _, ((Hx2.out.ext (Ext.alloc1 _ _)).ext hx6.out).out ho (fun b _ hb e => by have := hF b hb; omega), ((Hv2.out.ext (Ext.alloc1 _ _)).ext hx6.out).out ho (fun b _ hb e => by have := hF b hb; omega)⟩
        case measure => simp [intOf]; omega
      · have hkl : kless l[i].key k = false := by simpa using hkl
        go_wp2_with (first | (go_at_call 60; refine (r3_less _ l[i].key k (Hx2.out.ext (Ext.alloc1 _ _)) Hk.out).mono ?_; rw [hkl]; rintro r w6 ⟨rfl, hx6⟩))
        go_roundw
        case rel =>
          rw [if_neg (by rw [hkl]; decide)] at Hbs
          refine ⟨i + 1, x, y, by omega, by go_num, by rw [Hbs.out], ?_⟩
          rw [Hbs.out]
          exact ⟨(HB.out.out.alloc _).ext hx6, hx6.blk (blk_alloc HB.out.blk _) (fun f => f), (HB.out.bu.alloc _).ext hx6, (HB.out.bv.alloc _).ext hx6⟩
        case measure => simp [intOf]; omega
    · obtain rfl : i = l.length := by omega
      rw [List.take_length] at *
      generalize hE : (beforeE l k).getD zeroE = E at *
      have HE := Lib.hid hE
      obtain ⟨X, n1, q1, rfl⟩ := hB.bu.form0
      obtain ⟨Y, n2, q2, rfl⟩ := hB.bv.form0
      obtain ⟨s0, s1, s2, s3, -⟩ := cells4 hB.blk
      have hR1 := hB.out.blk B1.out (fun e => by omega)
      obtain ⟨r0, r1, r2, r3, rf⟩ := cells4 hR1
      obtain ⟨e0, e1, e2, e3, -⟩ := cells4 (blk_set4 hR1 (.slice X n1 q1) (u64V E.key.seq) (byteV E.key.kind) (.slice Y n2 q2))
      clear hB hE hR1
      go_wp2
      refine bodyPost_ret (v := .tuple #[.agg #[.slice X n1 q1, u64V E.key.seq, byteV E.key.kind, .slice Y n2 q2], .bool (beforeE l k).isSome]) (by simp [results, Try.results43, go_sem, e0, e1, e2, e3]) rfl ?_
      unfold ToldR
      rw [HE.out]
      have ho := out_set4 (S := fun b => b = w.heap.size + 1) (Out.refl _ wr) (g := w.heap.size + 1) (fun _ => rfl) (.slice X n1 q1) (u64V E.key.seq) (byteV E.key.kind) (.slice Y n2 q2)
      exact ⟨_, _, rfl, out_set4 (Hw.out.then HB.out.out (fun i hi e => by omega)) (by omega) _ _ _ _, HB.out.bu.out ho (fun b _ hb e => by have := hF b hb; omega), HB.out.bv.out ho (fun b _ hb e => by have := hF b hb; omega)⟩
end Go.Proofs.Yteaanagljmcidaa
