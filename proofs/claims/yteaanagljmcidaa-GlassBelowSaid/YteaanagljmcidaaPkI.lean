/- glass: BinarySearchFunc, place, Get, Len. · glass: New. · law08: entry. · law15: entry, awake. -/
import Derived.Test.YteaanagljmcidaaPkF
import Derived.Test.YteaanagljmcidaaPkH
import Derived.Test.YteaanagljmcidaaPkG
import Derived.Test.YteaanagljmcidaaPkA
import Derived.Test.YteaanagljmcidaaProg
import Derived.Lib.ConvBytes
import Derived.Lib.SlBytesConst
namespace Go.Proofs.Yteaanagljmcidaa
open Go.RowKit

attribute [local go_sem ↓] Go.wp_at_zero Go.wp_at_succ

/-- How many keys are ahead. -/
def lowP (m : List PairE) (k : List UInt8) : Nat := (m.filter fun p => decide (bcmp p.key k < 0)).length
def hasP (m : List PairE) (k : List UInt8) : Bool := m.any fun p => p.key == k
theorem lowP_le (m : List PairE) (k : List UInt8) : lowP m k ≤ m.length := List.length_filter_le _ _
theorem lowP_iff {m : List PairE} (h : SortedP m) (k : List UInt8) {j : Nat} (hj : j < m.length) : bcmp m[j].key k < 0 ↔ j < lowP m k := by
  obtain ⟨h1, h2⟩ := take_filter (fun p : PairE => decide (bcmp p.key k < 0)) (l := m) (h.imp fun {a b} hab hb => by simp only [decide_eq_true_eq] at *; exact bcmp_trans _ _ _ hab hb)
  have hl := lowP_le m k
  change m.take (lowP m k) = _ at h1
  change m.drop (lowP m k) = _ at h2
  constructor
  · intro hlt
    apply Classical.byContradiction
    intro hn
    have hj2 : j - lowP m k < (m.drop (lowP m k)).length := by rw [List.length_drop]; omega
    have hm : m[j] ∈ m.drop (lowP m k) := by
      have := List.getElem_mem hj2
      rw [List.getElem_drop] at this
      simp only [show lowP m k + (j - lowP m k) = j from by omega] at this
      exact this
    rw [h2] at hm
    have := (List.mem_filter.1 hm).2
    simp at this
    omega
  · intro hlt
    have hj2 : j < (m.take (lowP m k)).length := by rw [List.length_take]; omega
    have hm : m[j] ∈ m.take (lowP m k) := by
      have := List.getElem_mem hj2
      rwa [List.getElem_take] at this
    rw [h1] at hm
    simpa using (List.mem_filter.1 hm).2
theorem hasP_iff {m : List PairE} (h : SortedP m) (k : List UInt8) : hasP m k = true ↔ ∃ hj : lowP m k < m.length, bcmp m[lowP m k].key k = 0 := by
  unfold hasP
  rw [List.any_eq_true]
  constructor
  · rintro ⟨p, hp, he⟩
    obtain ⟨j, hj, rfl⟩ := List.getElem_of_mem hp
    have he : m[j].key = k := by simpa using he
    have h0 : bcmp m[j].key k = 0 := (bcmp_zero _ _).2 he
    have h1 : ¬ j < lowP m k := fun hlt => by have := (lowP_iff h k hj).2 hlt; omega
    have h2 : lowP m k = j := by
      apply Classical.byContradiction
      intro hn
      have hlt : lowP m k < j := by omega
      have hlm : lowP m k < m.length := by omega
      have h3 : bcmp m[lowP m k].key m[j].key < 0 := List.pairwise_iff_getElem.1 h _ _ hlm hj hlt
      rw [he] at h3
      have := (lowP_iff h k hlm).1 h3
      omega
    refine ⟨by omega, ?_⟩
    simp only [h2]
    exact h0
  · rintro ⟨hj, h0⟩
    exact ⟨_, List.getElem_mem hj, by simpa using (bcmp_zero _ _).1 h0⟩
theorem getP_low {m : List PairE} (h : SortedP m) (k : List UInt8) : getP m k = if hj : lowP m k < m.length then (if bcmp m[lowP m k].key k = 0 then (m[lowP m k].val, true) else ([], false)) else ([], false) := by
  have hno : ∀ j (_ : j < lowP m k) (hj : j < m.length), (m[j].key == k) = false := fun j h1 hj => by
    have := (lowP_iff h k hj).2 h1
    rw [beq_eq_false_iff_ne]
    intro he
    rw [(bcmp_zero _ _).2 he] at this
    omega
  have hno2 : ∀ j, lowP m k < j → ∀ hj : j < m.length, (m[j].key == k) = false := fun j h1 hj => by
    have hlm : lowP m k < m.length := by omega
    have h3 : bcmp m[lowP m k].key m[j].key < 0 := List.pairwise_iff_getElem.1 h _ _ hlm hj h1
    rw [beq_eq_false_iff_ne]
    intro he
    rw [he] at h3
    have := (lowP_iff h k hlm).1 h3
    omega
  split
  · rename_i hj
    split
    · rename_i h0
      exact getP_at hj hno (by simpa using (bcmp_zero _ _).1 h0)
    · rename_i h0
      exact getP_no fun j _ hj' => by
        rcases Nat.lt_trichotomy j (lowP m k) with h1 | h1 | h1
        · exact hno j h1 hj'
        · subst h1
          rw [beq_eq_false_iff_ne]
          exact fun he => h0 ((bcmp_zero _ _).2 he)
        · exact hno2 j h1 hj'
  · rename_i hj
    exact getP_no fun j _ hj' => hno j (by omega) hj'

set_option maxRecDepth 100000 in
set_option maxHeartbeats 4000000 in
theorem pair_search (w : World) {F G : Nat → Prop} {xv kv : Value} (m : List PairE) (k : List UInt8) (hx : Sl pairC w F xv m) (hk : Bs w G kv k) (hs : SortedP m) :
    Calls Try.prog 167 #[xv, kv, .func (.func 168) #[] #[]] w fun r w' => r = .returned (.tuple #[.int .i64 (lowP m k : Nat), .bool (hasP m k)]) ∧ Ext w w' := by
  obtain ⟨A, cap, rfl, -, -, h3, -⟩ := hx.form
  have h3 : m.length ≤ 140737488355328 := h3
  obtain ⟨U, N, n, rfl⟩ := hk.form0
  have Hx := Lib.hid hx
  have Hk := Lib.hid hk
  have Hlow : Hid (∀ j (hj : j < m.length), bcmp m[j].key k < 0 ↔ j < lowP m k) := Lib.hid fun j hj => lowP_iff hs k hj
  have Hhas := Lib.hid (hasP_iff hs k)
  have hll := lowP_le m k
  clear hx hk hs
  go_enter Try.func167, Try.ntmps167
  go_wp2
  go_loopw [9, 10] (fun s9 s10 wr => ∃ a b : Nat, s9 = .int .i64 a ∧ s10 = .int .i64 b ∧ a ≤ b ∧ b ≤ m.length ∧ Hid (a ≤ lowP m k) ∧ Hid (lowP m k ≤ b) ∧ Hid (Ext w wr)) (fun s9 s10 _ => (intOf s10).toNat - (intOf s9).toNat)
  case atStart => exact ⟨0, m.length, rfl, rfl, Nat.zero_le _, Nat.le_refl _, Lib.hid (Nat.zero_le _), Lib.hid hll, Lib.hid (Out.refl _ w)⟩
  case round =>
    obtain ⟨wo, rfl⟩ : ∃ x : World, x = wr := ⟨_, rfl⟩
    obtain ⟨a, b, rfl, rfl, hab, hbn, Ha, Hb, HX⟩ := hrel
    by_cases hlt : a < b
    · have hma : a ≤ (a + b) / 2 ∧ (a + b) / 2 < b := by omega
      have him : (a + b) / 2 < m.length := by omega
      obtain ⟨b1, o1, u1, v1, rfl, -, c0, c1, hu, hv⟩ := (Hx.out.ext HX.out).pair ((a + b) / 2) him
      obtain ⟨U1, N1, n1, rfl⟩ := hu.form0
      obtain ⟨V1, M1, m1, rfl⟩ := hv.form0
      have HC := place1 wo m[(a + b) / 2] k hu hv (Hk.out.ext HX.out)
      have Hi := Lib.hid (Hlow.out ((a + b) / 2) him)
      clear hu hv
      generalize bcmp m[(a + b) / 2].key k = c at *
      have HC := Lib.hid HC
      by_cases hc : c < 0
      · have h1 := Lib.hid (Hi.out.1 hc)
        go_wp2_with (first | (go_at_call 168; refine HC.out.mono ?_; rintro r w1 ⟨rfl, hx1⟩))
        go_roundw
        case rel => exact ⟨(a + b) / 2 + 1, b, by go_num, rfl, by omega, hbn, Lib.hid h1.out, Hb, Lib.hid (HX.out.ext hx1)⟩
        case measure => simp [intOf] <;> omega
      · have h1 := Lib.hid (mt Hi.out.2 hc)
        go_wp2_with (first | (go_at_call 168; refine HC.out.mono ?_; rintro r w1 ⟨rfl, hx1⟩))
        go_roundw
        case rel => exact ⟨a, (a + b) / 2, rfl, by go_num, by omega, by omega, Ha, Lib.hid (by have := h1.out; omega), Lib.hid (HX.out.ext hx1)⟩
        case measure => simp [intOf] <;> omega
    · obtain rfl : a = b := by omega
      have hal : a = lowP m k := by have := Ha.out; have := Hb.out; omega
      have Hhas2 : Hid (hasP m k = true ↔ ∃ hj : a < m.length, bcmp m[a].key k = 0) := Lib.hid (by simp only [hal]; exact Hhas.out)
      have Hal := Lib.hid hal
      clear hal
      by_cases han : a < m.length
      · obtain ⟨b1, o1, u1, v1, rfl, -, c0, c1, hu, hv⟩ := (Hx.out.ext HX.out).pair a han
        obtain ⟨U1, N1, n1, rfl⟩ := hu.form0
        obtain ⟨V1, M1, m1, rfl⟩ := hv.form0
        have HC := place1 wo m[a] k hu hv (Hk.out.ext HX.out)
        have Hq : Hid (hasP m k = (bcmp m[a].key k == 0)) := Lib.hid (by
          rw [Bool.eq_iff_iff, Hhas2.out, beq_iff_eq]
          exact ⟨fun h => h.2, fun h => ⟨han, h⟩⟩)
        clear hu hv
        generalize bcmp m[a].key k = c at *
        have HC := Lib.hid HC
        go_wp2_with (first | (go_at_call 168; refine HC.out.mono ?_; rintro r w1 ⟨rfl, hx1⟩))
        refine bodyPost_ret (v := .tuple #[.int .i64 a, .bool (c == 0)]) (by simp [results, Try.results167, go_sem]) rfl ?_
        rw [Hq.out, ← Hal.out]
        exact ⟨rfl, HX.out.ext hx1⟩
      · have Hq : Hid (hasP m k = false) := Lib.hid (by
          rw [Bool.eq_false_iff]
          intro h
          exact han (Hhas2.out.1 h).1)
        go_wp2
        refine bodyPost_ret (v := .tuple #[.int .i64 a, .bool false]) (by simp [results, Try.results167, go_sem]) rfl ?_
        rw [Hq.out, ← Hal.out]
        exact ⟨rfl, HX.out⟩

/-- The pairs at G. -/
structure Gl (w : World) (F : Nat → Prop) (G : Nat) (v : Value) (m : List PairE) : Prop where
  blk : w.heap[G]? = some (.cells #[v] 194)
  sl : Sl pairC w F v m
  srt : SortedP m
section
variable {w w' : World} {F H : Nat → Prop} {G : Nat} {v : Value} {m : List PairE}
theorem Gl.ext (h : Gl w F G v m) (hx : Ext w w') : Gl w' F G v m := ⟨hx.blk h.blk (fun f => f), h.sl.ext hx, h.srt⟩
theorem Gl.mono {F' : Nat → Prop} (h : Gl w F G v m) (hg : ∀ b, F b → b < w.heap.size → F' b) : Gl w F' G v m := ⟨h.blk, h.sl.mono hg (.inl (by decide)), h.srt⟩
theorem gl_place (h : Gl w F G v m) {kv : Value} (k : List UInt8) (hk : Bs w H kv k) :
    Calls Try.prog 142 #[.pointer (some ⟨G, 0, none⟩), kv] w fun r w' => r = .returned (.tuple #[.int .i64 (lowP m k : Nat), .bool (hasP m k)]) ∧ Ext w w' := by
  obtain ⟨r0, rf⟩ := cells1 h.blk
  have HS := Lib.hid (pair_search w m k h.sl hk h.srt)
  obtain ⟨A, n, c, rfl⟩ := h.sl.form0
  obtain ⟨U, N, n1, rfl⟩ := hk.form0
  clear h hk
  generalize lowP m k = lo at *
  generalize hasP m k = q at *
  go_enter Try.func142, Try.ntmps142
  go_wp2_with (go_at_call 167; refine HS.out.mono ?_; rintro r w1 ⟨rfl, hx1⟩)
  refine bodyPost_ret (v := .tuple #[.int .i64 lo, .bool q]) (by simp [results, Try.results142, go_sem]) rfl ?_
  exact ⟨rfl, hx1⟩
theorem gl_len (h : Gl w F G v m) : Calls Try.prog 81 #[.pointer (some ⟨G, 0, none⟩)] w fun r w' => r = .returned (.int .i64 m.length) ∧ w = w' := by
  obtain ⟨r0, rf⟩ := cells1 h.blk
  obtain ⟨A, c, rfl, -⟩ := h.sl.form
  clear h
  go_enter Try.func81, Try.ntmps81
  go_wp2
  go_ret
  exact ⟨rfl, rfl⟩
theorem gl_get (h : Gl w F G v m) {kv : Value} (k : List UInt8) (hk : Bs w H kv k) :
    Calls Try.prog 115 #[.pointer (some ⟨G, 0, none⟩), kv] w fun r w' => ∃ x, r = .returned (.tuple #[x, .bool (getP m k).2]) ∧ Ext w w' ∧ Bs w' (fun b => w.heap.size ≤ b) x (getP m k).1 := by
  obtain ⟨r0, rf⟩ := cells1 h.blk
  have HS := Lib.hid (gl_place h k hk)
  have Hg := Lib.hid (getP_low h.srt k)
  have Hh := Lib.hid (hasP_iff h.srt k)
  have Hsl := Lib.hid h.sl
  have HB := Lib.hid h.blk
  obtain ⟨A, c, rfl, -, -, hb, -⟩ := h.sl.form
  have hb : m.length ≤ 140737488355328 := hb
  obtain ⟨U, N, n1, rfl⟩ := hk.form0
  clear h hk
  generalize lowP m k = lo at *
  cases hq : hasP m k with
  | false =>
    rw [hq] at HS
    have Hg2 : Hid (getP m k = ([], false)) := Lib.hid (by
      rw [Hg.out]
      split
      · rename_i hj
        rw [if_neg]
        intro h0
        have := Hh.out.2 ⟨hj, h0⟩
        rw [hq] at this; cases this
      · rfl)
    clear hq
    go_enter Try.func115, Try.ntmps115
    go_wp2_with (go_at_call 142; refine HS.out.mono ?_; rintro r w1 ⟨rfl, hx1⟩)
    refine bodyPost_ret (v := .tuple #[.slice none 0 0, .bool false]) (by simp [results, Try.results115, go_sem]) rfl ?_
    rw [Hg2.out]
    exact ⟨_, rfl, hx1, Sl.nil _ _ _⟩
  | true =>
    rw [hq] at HS
    obtain ⟨hj, h0⟩ := Hh.out.1 hq
    have Hg2 : Hid (getP m k = (m[lo].val, true)) := Lib.hid (by rw [Hg.out, dif_pos hj, if_pos h0])
    clear hq h0
    obtain ⟨b1, o1, u1, v1, rfl, -, c0, c1, hu, hv⟩ := Hsl.out.pair lo hj
    obtain ⟨U1, N1, m1, rfl⟩ := hu.form0
    obtain ⟨V1, M1, n2, rfl⟩ := hv.form0
    have Hv := Lib.hid hv
    clear hu hv
    go_enter Try.func115, Try.ntmps115
    go_wp2_with (first
      | (go_at_call 142; refine HS.out.mono ?_; rintro r w1 ⟨rfl, hx1⟩; have HX1 := Lib.hid hx1; have d0 := hx1.cell c0 (fun f => f); have d1 := hx1.cell c1 (fun f => f); have e0 := hx1.cell r0 (fun f => f); clear hx1)
      | (go_at_call 122; refine (bytes_clone _ (Hv.out.ext HX1.out)).mono ?_; rintro r w2 ⟨x2, rfl, hx2, hb2⟩; have HX2 := Lib.hid (HX1.out.ext hx2); have Hb2 := Lib.hid (hb2.mono (G := fun b => w.heap.size ≤ b) (fun b hb _ => Nat.le_trans HX1.out.size hb) (.inl (by decide))); obtain ⟨Z, zn, zc, rfl⟩ := hb2.form0; clear hx2 hb2))
    refine bodyPost_ret (v := .tuple #[.slice Z zn zc, .bool true]) (by simp [results, Try.results115, go_sem]) rfl ?_
    rw [Hg2.out]
    exact ⟨_, rfl, HX2.out, Hb2.out⟩
end
end Go.Proofs.Yteaanagljmcidaa
namespace Go.Proofs.Yteaanagljmcidaa
open Go.RowKit

attribute [local go_sem] Oper.semAt_some
attribute [local go_sem ↓] Go.wp_at_zero Go.wp_at_succ

theorem seenE_sorted {l : List Ent} (h : SortedE l) (L : List SpanE) (q : Nat) : SortedP (seenE l L q) := by
  unfold seenE SortedP
  rw [List.pairwise_map, List.pairwise_filter]
  refine List.Pairwise.imp_of_mem (fun {a b} ha hb hab => ?_) h
  intro h1 h2
  rw [Bool.and_eq_true, seesE_iff] at h1 h2
  rcases kuser_le hab with hk | hk
  · exact hk
  · exfalso
    have e1 := h1.1.1
    have e2 := h2.1.1
    rw [hk, e2] at e1
    injection e1 with e1
    rw [e1] at hab
    exact kcmp_irrefl _ hab

/-- What New's rounds read. -/
structure Lens (W : World) (Foot : Nat → Prop) (Bq Bt Bg G T : Nat) (q : Nat) (L : List SpanE) : Prop where
  cq : W.cell? ⟨Bq, 0, none⟩ = some (.int .u64 (q : Int))
  ct : W.cell? ⟨Bt, 0, none⟩ = some (.pointer (some ⟨T, 0, none⟩))
  cg : W.cell? ⟨Bg, 0, none⟩ = some (.pointer (some ⟨G, 0, none⟩))
  fq : Foot Bq
  ft : Foot Bt
  fg : Foot Bg
  tb : ∃ FT v, Tb W FT T v L ∧ Foot T ∧ (∀ b, FT b → Foot b) ∧ ∀ b, v.ownBlock = some b → Foot b
section
variable {W W' : World} {Foot S : Nat → Prop} {Bq Bt Bg G T q : Nat} {L : List SpanE}
theorem Lens.out (h : Lens W Foot Bq Bt Bg G T q L) (ho : Out S W W') (hs : ∀ b, Foot b → ¬ S b) : Lens W' Foot Bq Bt Bg G T q L := by
  obtain ⟨FT, v, h1, h2, h3, h4⟩ := h.tb
  exact ⟨ho.cell h.cq (hs _ h.fq), ho.cell h.ct (hs _ h.ft), ho.cell h.cg (hs _ h.fg), h.fq, h.ft, h.fg, FT, v, h1.frame ho (hs _ h2) (fun b hb => hs b (h4 b hb)) (fun b _ hb => hs b (h3 b hb)), h2, h3, h4⟩
theorem Lens.ext (h : Lens W Foot Bq Bt Bg G T q L) (ho : Ext W W') : Lens W' Foot Bq Bt Bg G T q L := h.out ho fun _ _ f => f
theorem Lens.cover (h : Lens W Foot Bq Bt Bg G T q L) {H : Nat → Prop} {x : Value} (k : List UInt8) (hx : Bs W H x k) : Calls Try.prog 139 #[.pointer (some ⟨T, 0, none⟩), x, .int .u64 (q : Int)] W fun e w' => e = .returned (.int .u64 (coverE L k q : Nat)) ∧ Ext W w' := by
  obtain ⟨FT, v, h1, -⟩ := h.tb
  exact tomb_cover h1 k hx q
end

set_option maxRecDepth 100000 in
set_option maxHeartbeats 8000000 in
theorem gl_new (w : World) {F H : Nat → Prop} {xv sv : Value} (l : List Ent) (L : List SpanE) (hx : Sl entC w F xv l) (hs : Sl spanC w H sv L) (hF : ∀ b, F b → b < w.heap.size) (_hH : ∀ b, H b → b < w.heap.size) (hsort : SortedE l) (hL : ∀ s ∈ L, scheck s = 0) (hl1 : l.length ≤ 1000) (hl2 : L.length ≤ 1000) (q : Nat) :
    Calls Try.prog 78 #[xv, sv, .int .u64 (q : Int)] w fun e w' => ∃ G v, e = .returned (.tuple #[.pointer (some ⟨G, 0, none⟩), .int .i64 0]) ∧ Ext w w' ∧ Gl w' (fun b => w.heap.size ≤ b) G v (seenE l L q) := by
  refine (callsIn_wide (n := 5)).1 ?_
  refine callsIn_of_wp_marks Try.func78 rfl trivial ?_ rfl
  simp only [Try.ntmps78, List.size_toArray, List.length_cons, List.length_nil, Nat.reduceAdd, Nat.reduceSub, Array.replicate_succ, Array.replicate_zero, List.push_toArray, List.append_toArray, List.nil_append, List.cons_append]
  refine wpIn_wide.2 ?_
  obtain ⟨A, cap, rfl, -⟩ := hx.form
  obtain ⟨B, cap2, rfl, -⟩ := hs.form
  have hb0 := blk_new w (.cells #[.int .u64 (q : Int)] 28)
  have HB0 := Lib.hid hb0
  have HX0 := Lib.hid (Ext.alloc1 w (.cells #[.int .u64 (q : Int)] 28))
  have Hx := Lib.hid hx
  have Hs := Lib.hid hs
  have Hsort := Lib.hid hsort
  have HL := Lib.hid hL
  clear hx hs hb0 hsort hL
  go_wp2
  go_loopw [8] (fun s8 wr => ∃ j : Nat, j ≤ l.length ∧ s8 = .int .i64 ((j : Int) + 1) ∧ Ext (w.alloc (.cells #[.int .u64 (q : Int)] 28)) wr) (fun s8 _ => l.length - (intOf s8).toNat)
  case atStart => exact ⟨0, Nat.zero_le _, by simp, Out.refl _ _⟩
  case round =>
    obtain ⟨wo, rfl⟩ : ∃ x : World, x = wr := ⟨_, rfl⟩
    obtain ⟨j, hj, rfl, hxo⟩ := hrel
    have HXo := Lib.hid hxo
    clear hxo
    by_cases hlt : j + 1 < l.length
    · as_aux_lemma =>
        obtain ⟨b1, o1, u1, v1, rfl, -, c0, c1, c2, c3, hu, hv⟩ := ((Hx.out.ext HX0.out).ext HXo.out).ent j (by omega)
        obtain ⟨b2, o2, u2, v2, hA, -, d0, d1, d2, d3, hu2, hv2⟩ := ((Hx.out.ext HX0.out).ext HXo.out).ent (j + 1) hlt
        injection hA with hA
        injection hA with hA1 hA2
        subst hA1 hA2
        obtain ⟨U1, N1, n1, rfl⟩ := hu.form0
        obtain ⟨U2, N2, n2, rfl⟩ := hu2.form0
        have hk : kcmp l[j].key l[j + 1].key < 0 := List.pairwise_iff_getElem.1 Hsort.out j (j + 1) (by omega) hlt (by omega)
        have HC := ikey_compare wo.drew l[j].key l[j + 1].key hu.drew hu2.drew
        generalize kcmp l[j].key l[j + 1].key = c at *
        have HC := Lib.hid HC
        have hi0 : (0 : Int) ≤ (j : Int) := by omega
        have hi1 : (j : Int) ≤ (l.length : Int) := by omega
        have hi2 : (j : Int) < (l.length : Int) := by omega
        have hi3 : (j : Int) + 1 < (l.length : Int) := by omega
        have hi4 : (0 : Int) ≤ (j : Int) + 1 := by omega
        have hw4 : IntKind.i64.wrap ((j : Int) + 1) = (j : Int) + 1 := by rw [IntKind.wrap_i64]; omega
        have hw1 : IntKind.i64.wrap ((j : Int) + 1 - 1) = (j : Int) := by rw [IntKind.wrap_i64]; omega
        have hw2 : IntKind.i64.wrap (j : Int) = (j : Int) := by rw [IntKind.wrap_i64]; omega
        clear hu hv hu2 hv2
        go_wp2
        go_region_held3 (fun w' => w'.cell? ⟨b1, o1 + j * 4, none⟩ = some (.slice U1 N1 n1) ∧ w'.cell? ⟨b1, o1 + j * 4 + 1, none⟩ = some (u64V l[j].key.seq) ∧ w'.cell? ⟨b1, o1 + j * 4 + 2, none⟩ = some (byteV l[j].key.kind) ∧ w'.cell? ⟨b1, o1 + (j + 1) * 4, none⟩ = some (.slice U2 N2 n2) ∧ w'.cell? ⟨b1, o1 + (j + 1) * 4 + 1, none⟩ = some (u64V l[j + 1].key.seq) ∧ w'.cell? ⟨b1, o1 + (j + 1) * 4 + 2, none⟩ = some (byteV l[j + 1].key.kind))
          (first | go_keep | exact ⟨hx1.cell c0 (fun f => f), hx1.cell c1 (fun f => f), hx1.cell c2 (fun f => f), hx1.cell d0 (fun f => f), hx1.cell d1 (fun f => f), hx1.cell d2 (fun f => f)⟩) (first | (go_at_call 98; refine HC.out.mono ?_; rintro e w1 ⟨rfl, hx1⟩))
        go_wp2
        go_roundw
        case rel => exact ⟨j + 1, by omega, by go_num, HXo.out.drew.ext hx1⟩
        case measure => simp [intOf] <;> omega
    · have HXA := Lib.hid (HX0.out.ext HXo.out)
      have HBA := Lib.hid (HXo.out.blk HB0.out (fun f => f))
      have hzA := HXA.out.size
      have hz1 : w.heap.size < wo.heap.size := blk_lt HBA.out
      have hge : (l.length : Int) ≤ (j : Int) + 1 := by omega
      clear HXo HB0 HX0
      go_wp2_with (go_at_call 117; refine (tomb_newNil _).mono ?_; rintro r w1 ⟨T, rfl, hx1, hT, htb⟩; have HX1 := Lib.hid hx1; have HTb := Lib.hid htb; have hz2 := hx1.size; have Hlt : Hid (T = wo.heap.size) := Lib.hid hT; clear hx1 htb hT)
      have hTlt : T < w1.heap.size := blk_lt HTb.out.blk
      go_loopw [39] (fun s39 wr => ∃ (i : Nat) (FT : Nat → Prop) (v : Value), i ≤ L.length ∧ s39 = .int .i64 i ∧ Tb wr FT T v (L.take i) ∧ (∀ b, FT b → wo.heap.size ≤ b ∧ b < wr.heap.size) ∧ (∀ b, v.ownBlock = some b → wo.heap.size ≤ b ∧ b ≠ w1.heap.size) ∧ wr.heap[w1.heap.size]? = some (.cells #[.pointer (some ⟨T, 0, none⟩)] 168) ∧ Ext wo wr) (fun s39 _ => L.length - (intOf s39).toNat)
      case atStart =>
        refine ⟨0, (fun b => wo.heap.size < b ∧ b < w1.heap.size), .slice none 0 0, Nat.zero_le _, rfl, ?_, ?_, ?_, ?_, ?_⟩
        · exact (Tb.mono HTb.out (fun b hb hlt => ⟨hb, hlt⟩) (fun h => by have := Hlt.out; omega)).ext (Ext.alloc1 _ _)
        · exact fun b hb => ⟨by omega, by rw [World.size_alloc]; omega⟩
        · intro b e; cases e
        · exact blk_new _ _
        · exact HX1.out.alloc _
      case round =>
        obtain ⟨wp, rfl⟩ : ∃ x : World, x = wr := ⟨_, rfl⟩
        obtain ⟨i, FT, v, hi, rfl, htb, hF1, hF2, hbt, hxp⟩ := hrel
        have HTp := Lib.hid htb
        have HF1 := Lib.hid hF1
        have HF2 := Lib.hid hF2
        have HBt := Lib.hid hbt
        have HXp := Lib.hid hxp
        have hz3 := blk_lt hbt
        obtain ⟨t0, -⟩ := cells1 hbt
        clear htb hF1 hF2 hbt hxp
        by_cases hlt2 : i < L.length
        · as_aux_lemma =>
            obtain ⟨b1, o1, u1, v1, rfl, -, c0, c1, c2, hu, hv⟩ := ((Hs.out.ext HXA.out).ext HXp.out).span i hlt2
            obtain ⟨U1, N1, n1, rfl⟩ := hu.form0
            obtain ⟨V1, M1, m1, rfl⟩ := hv.form0
            have x1 := Ext.alloc1 wp (.cells #[.slice U1 N1 n1, .slice V1 M1 m1, u64V L[i].seq] 92)
            obtain ⟨z0, z1, z2, -⟩ := cells3 (blk_new wp (.cells #[.slice U1 N1 n1, .slice V1 M1 m1, u64V L[i].seq] 92))
            have t1 := cell_alloc t0 (.cells #[.slice U1 N1 n1, .slice V1 M1 m1, u64V L[i].seq] 92)
            have HA := Lib.hid (tomb_add (HTp.out.ext x1) L[i] (hu.ext x1) (hv.ext x1) (HL.out _ (List.getElem_mem hlt2)) (by rw [List.length_take]; omega))
            have X1 := Lib.hid x1
            have Htk := Lib.hid (List.take_succ_eq_append_getElem hlt2)
            generalize L[i] = s at *
            clear hu hv x1
            go_wp2_with (go_at_call 140; refine HA.out.mono ?_; rintro r w4 ⟨rfl, ho4, v4, htb4, hv4⟩; have HO4 := Lib.hid ho4; have HT4 := Lib.hid htb4; have HV4 := Lib.hid hv4; have hz4 := ho4.size; simp only [World.size_alloc] at hz4; clear ho4 htb4 hv4)
            go_roundw
            case rel =>
              have hT0 := Hlt.out
              exact ⟨i + 1, fun b => (FT b ∨ wp.heap.size + 1 ≤ b) ∧ b < w4.heap.size, v4, by omega, by go_num, by
                  rw [Htk.out]
                  exact Tb.mono HT4.out (fun b hb hl => ⟨hb.imp id (fun h => by rw [World.size_alloc] at h; exact h), hl⟩) (fun h => HT4.out.cold (h.1.imp id (fun h => by rw [World.size_alloc]; exact h))),
                fun b hb => ⟨hb.1.elim (fun h => (HF1.out b h).1) (fun h => by omega), hb.2⟩,
                fun b hb => by
                  rcases HV4.out with h | ⟨g, h, h5⟩
                  · rw [h] at hb; exact HF2.out b hb
                  · rw [h] at hb; injection hb with hb; rw [World.size_alloc] at h5; omega,
                HO4.out.blk (blk_alloc HBt.out _) (fun e => by
                  rcases e with e | e
                  · omega
                  · exact (HF2.out _ e).2 rfl),
                (HXp.out.ext X1.out).then HO4.out (fun b hb e => by
                  rcases e with e | e
                  · omega
                  · have := (HF2.out _ e).1; omega)⟩
            case measure => simp [intOf] <;> omega
        · obtain rfl : i = L.length := by omega
          rw [List.take_length] at HTp
          have HXw := Lib.hid (HXA.out.ext HXp.out)
          have HBq := Lib.hid (HXp.out.blk HBA.out (fun f => f))
          have HX := Lib.hid (Hx.out.ext HXw.out)
          have hzp := HXw.out.size
          have hT0 : wo.heap.size ≤ T := by have := Hlt.out; omega
          have hTw : w.heap.size < T := by omega
          have hTp : T < wp.heap.size := blk_lt HTp.out.blk
          clear hlt HXp HBA HXA HX1 HTb HL Hs
          go_wp2_with (go_at_call 119; refine (keys_make _ _ _ _).mono ?_; rintro r w5 ⟨rfl, rfl⟩)
          have hxr : Ext wp (((wp.alloc (.cells #[.slice none 0 0] 194)).alloc (.cells #[.pointer (some ⟨wp.heap.size, 0, none⟩)] 120)).alloc (.cells #[.slice A l.length cap] 43)) := ((Ext.alloc1 _ _).alloc _).alloc _
          have hbX : (((wp.alloc (.cells #[.slice none 0 0] 194)).alloc (.cells #[.pointer (some ⟨wp.heap.size, 0, none⟩)] 120)).alloc (.cells #[.slice A l.length cap] 43)).heap[wp.heap.size + 2]? = some (.cells #[.slice A l.length cap] 43) := blk_at (by simp)
          have hbB : (((wp.alloc (.cells #[.slice none 0 0] 194)).alloc (.cells #[.pointer (some ⟨wp.heap.size, 0, none⟩)] 120)).alloc (.cells #[.slice A l.length cap] 43)).heap[wp.heap.size + 1]? = some (.cells #[.pointer (some ⟨wp.heap.size, 0, none⟩)] 120) := blk_alloc (blk_at (by simp)) _
          have hbG : (((wp.alloc (.cells #[.slice none 0 0] 194)).alloc (.cells #[.pointer (some ⟨wp.heap.size, 0, none⟩)] 120)).alloc (.cells #[.slice A l.length cap] 43)).heap[wp.heap.size]? = some (.cells #[.slice none 0 0] 194) := blk_alloc (blk_alloc (blk_new _ _) _) _
          have hD : (((wp.alloc (.cells #[.slice none 0 0] 194)).alloc (.cells #[.pointer (some ⟨wp.heap.size, 0, none⟩)] 120)).alloc (.cells #[.slice A l.length cap] 43)).heap.size = wp.heap.size + 3 := by simp
          have HLens : Hid (Lens (((wp.alloc (.cells #[.slice none 0 0] 194)).alloc (.cells #[.pointer (some ⟨wp.heap.size, 0, none⟩)] 120)).alloc (.cells #[.slice A l.length cap] 43)) (fun b => w.heap.size ≤ b ∧ b < wp.heap.size ∨ b = wp.heap.size + 1) w.heap.size w1.heap.size (wp.heap.size + 1) wp.heap.size T q L) := Lib.hid ⟨(cells1 (hxr.blk HBq.out (fun f => f))).1, (cells1 (hxr.blk HBt.out (fun f => f))).1, (cells1 hbB).1, .inl ⟨Nat.le_refl _, by omega⟩, .inl ⟨by omega, hz3⟩, .inr rfl, FT, v, HTp.out.ext hxr, .inl ⟨by omega, hTp⟩, fun b hb => .inl (by have := HF1.out b hb; omega), fun b hb => .inl ⟨by have := (HF2.out b hb).1; omega, (HTp.out.own.lt b hb).2⟩⟩
          have Hxr := Lib.hid hxr
          have HXr := Lib.hid (HX.out.ext hxr)
          clear hxr HTp HF1 HF2 HBt HBq HX Hx
          refine (wpIn_wide (n := 5)).1 ?_
          refine wp_rangeFuncT (n := 5) 156 _ rfl (enters_of Try.func156 (by kernel_rfl) rfl) (wp.heap.size + 3)
            (keys_gives 4 (by omega) l HXr.out Hsort.out (wp.heap.size + 2) hbX (fun h => by have := hF _ h; omega) (fun b => b = wp.heap.size ∨ wp.heap.size + 3 ≤ b) (fun b hb hk => by have := hF b hb; omega) (fun h => by omega) _ (by omega))
            hD (fun b hb => .inr hb) (fun b hb => by omega) (fun _ => rfl)
            (fun pre W => Out (fun b => b = wp.heap.size ∨ b = wp.heap.size + 2) (((wp.alloc (.cells #[.slice none 0 0] 194)).alloc (.cells #[.pointer (some ⟨wp.heap.size, 0, none⟩)] 120)).alloc (.cells #[.slice A l.length cap] 43)) W ∧ ∃ v, W.heap[wp.heap.size]? = some (.cells #[v] 194) ∧ Own pairC 107 W (wp.heap.size + 5) (fun b => wp.heap.size + 5 ≤ b) v ((pre.map (·.l)).flatMap (seenG L q)))
            ?hI ⟨Out.refl _ _, _, hbG, Own.nil _ _ _ _ _⟩ ?round ?done
          case hI =>
            rintro pre A' B' ⟨h1, v1, h2, h3⟩ hAB
            exact ⟨h1.then hAB (fun i hi e => by rcases e with e | e | e <;> omega), v1, hAB.blk h2 (fun e => by rcases e with e | e | e <;> omega), h3.frame hAB (fun b _ hb _ e => by rcases e with e | e | e <;> omega) (fun b _ hb _ e => by rcases e with e | e | e <;> omega)⟩
          case round =>
            rintro lp pre ⟨g, gv⟩ Wa W1 ⟨hout, v1, hG, hown⟩ hT01 hsz ⟨hgl, hgne, hgu, hgn⟩ hlen
            dsimp only at hgl hgne hgu hgn hlen
            obtain ⟨A1, c1, rfl, -⟩ := hgl.form
            obtain ⟨A3, n3, c3, rfl⟩ := hown.form0
            simp only [GV.enc]
            have hz1a := hT01.size
            have Hout := Lib.hid hout
            have HG := Lib.hid hG
            have Hown := Lib.hid hown
            have HT01 := Lib.hid hT01
            have Hgl := Lib.hid hgl
            have Hlt2 := Lib.hid hown.lt
            clear hout hG hown hT01 hgl hgne
            gi_wp2
            refine ⟨Out.refl _ _, fun W2 h2 => ?_⟩
            have hz2' := h2.size
            have HL2 := Lib.hid (((HLens.out.out Hout.out (fun b hb e => by omega)).out HT01.out (fun b hb e => by omega)).out h2 (fun b hb e => by omega))
            have HG2 := Lib.hid (h2.blk (HT01.out.blk HG.out (fun e => by omega)) (fun e => by omega))
            have HO2 := Lib.hid ((Hown.out.frame HT01.out (fun b _ hb _ e => by omega) (fun b _ hb _ e => by omega)).frame h2 (fun b _ hb _ e => by omega) (fun b _ hb _ e => by omega))
            have Hg2 := Lib.hid (Hgl.out.out h2 (fun b _ hb e => by have := hF b hb; omega))
            have HW2 := Lib.hid ((Hout.out.trans (HT01.out.mono fun b _ h => .inr h)).then h2 (fun b hb e => by omega))
            have hq0 := HL2.out.cq
            have hnl := flatMap_len (seenG L q) (seenG_len L q) (pre.map (·.l))
            rw [List.length_map] at hnl
            have Hsn : Hid (((pre ++ [(⟨g, .slice A1 g.length c1⟩ : GV)]).map (·.l)).flatMap (seenG L q) = (pre.map (·.l)).flatMap (seenG L q) ++ seenG L q g) := Lib.hid (by simp)
            obtain ⟨out, hpre⟩ : ∃ out, (pre.map (·.l)).flatMap (seenG L q) = out := ⟨_, rfl⟩
            rw [hpre] at HO2 hnl Hsn
            have Hpre := Lib.hid hpre
            clear hpre
            clear Hout HT01 HG Hown Hgl
            by_cases hz : idxI (fitsQ q) g < 0
            · have Hse : Hid (seenG L q g = []) := Lib.hid (by unfold seenG; rw [find_noidx hz])
              have HC := Lib.hid (gl_newest W2 g Hg2.out q)
              generalize idxI (fitsQ q) g = z at *
              gi_wp2_with (first | (refine ⟨trivial, ?_⟩; gi_at_call 141; refine (CallsIn.inRound _ (callsIn_wide.2 HC.out)).mono ?_; rintro r w6 ⟨rfl, hx6⟩))
              refine ⟨hx6.out _, HW2.out.ext hx6, _, hx6.blk HG2.out (fun f => f), ?_⟩
              rw [Hsn.out, Hse.out, List.append_nil]
              exact HO2.out.ext hx6
            · obtain ⟨i, hi⟩ : ∃ i : Nat, idxI (fitsQ q) g = i := ⟨(idxI (fitsQ q) g).toNat, by omega⟩
              obtain ⟨hil, hfind⟩ := find_idx hi
              have HC := gl_newest W2 g Hg2.out q
              rw [hi] at HC
              have HC := Lib.hid HC
              have Hse0 : Hid (seenG L q g = if isPut g[i] && decide (coverE L g[i].key.user q ≤ g[i].key.seq.toNat) then [pairOf g[i]] else []) := Lib.hid (by unfold seenG; rw [hfind])
              obtain ⟨b1, o1, u1, v1, hA1, -, e0, e1, e2, e3, hu, hv⟩ := Hg2.out.ent i hil
              subst hA1
              have hi0 : (0 : Int) ≤ (i : Int) := by omega
              have hi1 : (i : Int) < (g.length : Int) := by omega
              generalize g[i] = e at *
              obtain ⟨U1, N1, n1, rfl⟩ := hu.form0
              obtain ⟨V1, M1, m1, rfl⟩ := hv.form0
              have Hu := Lib.hid hu
              have Hv := Lib.hid hv
              clear hi hfind hz hu hv hq0
              have hq0 := HL2.out.cq
              gi_wp2_with (first | (refine ⟨trivial, ?_⟩; gi_at_call 141; refine (CallsIn.inRound _ (callsIn_wide.2 HC.out)).mono ?_; rintro r w6 ⟨rfl, hx6⟩; have HX6 := Lib.hid hx6; have d0 := hx6.cell e0 (fun f => f); have d1 := hx6.cell e1 (fun f => f); have d2 := hx6.cell e2 (fun f => f); have d3 := hx6.cell e3 (fun f => f); clear hx6))
              have x7 := Ext.alloc1 w6 (.cells #[.slice U1 N1 n1, u64V e.key.seq, byteV e.key.kind, .slice V1 M1 m1] 32)
              have hz7 := blk_new w6 (.cells #[.slice U1 N1 n1, u64V e.key.seq, byteV e.key.kind, .slice V1 M1 m1] 32)
              obtain ⟨z0, z1, z2, z3, -⟩ := cells4 hz7
              have HZ7 := Lib.hid hz7
              have X7 := Lib.hid (HX6.out.ext x7)
              have HL7 := Lib.hid (HL2.out.ext X7.out)
              have hz6 := HX6.out.size
              have ct7 := HL7.out.ct
              have cq7 := HL7.out.cq
              clear hz7 x7 d0 d1 d2 d3 hq0 e0 e1 e2 e3
              by_cases hk : e.key.kind.toNat = 1
              · have hkb : (((e.key.kind.toNat : Nat) : Int) != 1) = false := by simp [hk]
                have Hse : Hid (seenG L q g = []) := Lib.hid (by rw [Hse0.out]; unfold isPut; simp [hk])
                clear hk Hse0
                refine region_BI 99 (fun w' => w'.cell? ⟨w6.heap.size, 2, none⟩ = some (byteV e.key.kind)) (by kernel_rfl) (by kernel_rfl) (by rintro ⟨aO, wO, hO⟩; exact hO) ?q78_20S (fun hHeld0 => ?_)
                case q78_20S => ((first | go_keep | ((try dsimp only); assumption)))
                refine anyB_take (i := 0) (oi := _) (v := ?q78_20v1) rfl (by kernel_rfl) (by kernel_rfl) (by kernel_rfl) (by kernel_rfl) (fun _ _ _ h => h) (Or.inl ⟨by rfl, ?q78_20h1⟩) (by assumption) ?q78_20r1
                case q78_20h1 => (intro w hSw; (try dsimp only at hSw); go_simp; try with_reducible rfl)
                (try simp only [List.getElem_toArray, List.getElem_cons_zero, Act.put, List.setIfInBounds_toArray, List.set_cons_zero, List.set_cons_succ])
                refine anyB_take (i := 1) (oi := _) (v := ?q78_20v2) rfl (by kernel_rfl) (by kernel_rfl) (by kernel_rfl) (by kernel_rfl) (fun _ _ _ h => h) (Or.inl ⟨by rfl, ?q78_20h2⟩) (by assumption) ?q78_20r2
                case q78_20h2 => (intro w hSw; (try dsimp only at hSw); go_simp; try with_reducible rfl)
                (try simp only [List.getElem_toArray, List.getElem_cons_succ, List.getElem_cons_zero, Act.put, List.setIfInBounds_toArray, List.set_cons_zero, List.set_cons_succ])
                refine anyB_take (i := 2) (oi := _) (v := ?q78_20v3) rfl (by kernel_rfl) (by kernel_rfl) (by kernel_rfl) (by kernel_rfl) (fun _ _ _ h => h) (Or.inl ⟨by rfl, ?q78_20h3⟩) (by assumption) ?q78_20r3
                case q78_20h3 => (intro w hSw; (try dsimp only at hSw); go_simp; try with_reducible rfl)
                (try simp only [List.getElem_toArray, List.getElem_cons_succ, List.getElem_cons_zero, Act.put, List.setIfInBounds_toArray, List.set_cons_zero, List.set_cons_succ])
                refine anyB_take (i := 3) (oi := _) (v := ?q78_20v4) rfl (by kernel_rfl) (by kernel_rfl) (by kernel_rfl) (by kernel_rfl) (fun _ _ _ h => h) (Or.inl ⟨by rfl, ?q78_20h4⟩) (by assumption) ?q78_20r4
                case q78_20h4 => (intro w hSw; (try dsimp only at hSw); go_simp; try with_reducible rfl)
                (try simp only [List.getElem_toArray, List.getElem_cons_succ, List.getElem_cons_zero, Act.put, List.setIfInBounds_toArray, List.set_cons_zero, List.set_cons_succ])
                refine anyB_take (i := 4) (oi := _) (v := ?q78_20v5) rfl (by kernel_rfl) (by kernel_rfl) (by kernel_rfl) (by kernel_rfl) (fun _ _ _ h => h) (Or.inl ⟨by rfl, ?q78_20h5⟩) (by assumption) ?q78_20r5
                case q78_20h5 => (intro w hSw; (try dsimp only at hSw); go_simp; try with_reducible rfl)
                (try simp only [List.getElem_toArray, List.getElem_cons_succ, List.getElem_cons_zero, Act.put, List.setIfInBounds_toArray, List.set_cons_zero, List.set_cons_succ])
                refine anyB_take (i := 5) (oi := _) (v := undef) rfl (by kernel_rfl) (by kernel_rfl) (by kernel_rfl) (by kernel_rfl) (fun _ _ _ h => h) (Or.inr ⟨by rfl, rfl⟩) (by assumption) ?q78_20r6
                (try simp only [List.getElem_toArray, List.getElem_cons_succ, List.getElem_cons_zero, Act.put, List.setIfInBounds_toArray, List.set_cons_zero, List.set_cons_succ])
                refine anyB_take (i := 6) (oi := _) (v := undef) rfl (by kernel_rfl) (by kernel_rfl) (by kernel_rfl) (by kernel_rfl) (fun _ _ _ h => h) (Or.inr ⟨by rfl, rfl⟩) (by assumption) ?q78_20r7
                (try simp only [List.getElem_toArray, List.getElem_cons_succ, List.getElem_cons_zero, Act.put, List.setIfInBounds_toArray, List.set_cons_zero, List.set_cons_succ])
                refine anyB_take (i := 7) (oi := _) (v := undef) rfl (by kernel_rfl) (by kernel_rfl) (by kernel_rfl) (by kernel_rfl) (fun _ _ _ h => h) (Or.inr ⟨by rfl, rfl⟩) (by assumption) ?q78_20r8
                (try simp only [List.getElem_toArray, List.getElem_cons_succ, List.getElem_cons_zero, Act.put, List.setIfInBounds_toArray, List.set_cons_zero, List.set_cons_succ])
                refine anyB_take (i := 8) (oi := _) (v := undef) rfl (by kernel_rfl) (by kernel_rfl) (by kernel_rfl) (by kernel_rfl) (fun _ _ _ h => h) (Or.inr ⟨by rfl, rfl⟩) (by assumption) ?q78_20r9
                (try simp only [List.getElem_toArray, List.getElem_cons_succ, List.getElem_cons_zero, Act.put, List.setIfInBounds_toArray, List.set_cons_zero, List.set_cons_succ])
                refine anyB_take (i := 9) (oi := _) (v := undef) rfl (by kernel_rfl) (by kernel_rfl) (by kernel_rfl) (by kernel_rfl) (fun _ _ _ h => h) (Or.inr ⟨by rfl, rfl⟩) (by assumption) ?q78_20r10
                (try simp only [List.getElem_toArray, List.getElem_cons_succ, List.getElem_cons_zero, Act.put, List.setIfInBounds_toArray, List.set_cons_zero, List.set_cons_succ])
                refine anyB_take (i := 11) (oi := _) (v := undef) rfl (by kernel_rfl) (by kernel_rfl) (by kernel_rfl) (by kernel_rfl) (fun _ _ _ h => h) (Or.inr ⟨by rfl, rfl⟩) (by assumption) ?q78_20r11
                (try simp only [List.getElem_toArray, List.getElem_cons_succ, List.getElem_cons_zero, Act.put, List.setIfInBounds_toArray, List.set_cons_zero, List.set_cons_succ])
                refine anyB_take (i := 12) (oi := _) (v := undef) rfl (by kernel_rfl) (by kernel_rfl) (by kernel_rfl) (by kernel_rfl) (fun _ _ _ h => h) (Or.inr ⟨by rfl, rfl⟩) (by assumption) ?q78_20r12
                (try simp only [List.getElem_toArray, List.getElem_cons_succ, List.getElem_cons_zero, Act.put, List.setIfInBounds_toArray, List.set_cons_zero, List.set_cons_succ])
                refine anyB_take (i := 13) (oi := _) (v := undef) rfl (by kernel_rfl) (by kernel_rfl) (by kernel_rfl) (by kernel_rfl) (fun _ _ _ h => h) (Or.inr ⟨by rfl, rfl⟩) (by assumption) ?q78_20r13
                (try simp only [List.getElem_toArray, List.getElem_cons_succ, List.getElem_cons_zero, Act.put, List.setIfInBounds_toArray, List.set_cons_zero, List.set_cons_succ])
                refine anyB_step (i := 10) (o := _) (by kernel_rfl) (by rfl) (by (simp only [List.getElem?_toArray, List.getElem?_cons_succ, List.getElem?_cons_zero] <;> rfl)) (fun K hK => ?_)
                refine Eq.mpr (if_neg ?q78_20w14) ?_
                case q78_20w14 => (intro hw; exact absurd (show false = true from hw) (by decide))
                refine hK.out _ _ ?q78_20S14 (fun hHeld1 => ?_)
                case q78_20S14 => ((first | go_keep | ((try dsimp only); assumption)))
                clear hK K hHeld0
                (try simp only [Act.put, List.setIfInBounds_toArray, List.set_cons_zero, List.set_cons_succ])
                refine anyB_take (i := 14) (oi := _) (v := undef) rfl (by kernel_rfl) (by kernel_rfl) (by kernel_rfl) (by kernel_rfl) (fun _ _ _ h => h) (Or.inr ⟨by rfl, rfl⟩) (by assumption) ?q78_20r15
                (try simp only [List.getElem_toArray, List.getElem_cons_succ, List.getElem_cons_zero, Act.put, List.setIfInBounds_toArray, List.set_cons_zero, List.set_cons_succ])
                refine anyB_take (i := 15) (oi := _) (v := ?q78_20v16) rfl (by kernel_rfl) (by kernel_rfl) (by kernel_rfl) (by kernel_rfl) (fun _ _ _ h => h) (Or.inl ⟨by rfl, ?q78_20h16⟩) (by assumption) ?q78_20r16
                case q78_20h16 => (intro w hSw; (try dsimp only at hSw); go_simp; try with_reducible rfl)
                (try simp only [List.getElem_toArray, List.getElem_cons_succ, List.getElem_cons_zero, Act.put, List.setIfInBounds_toArray, List.set_cons_zero, List.set_cons_succ])
                refine anyB_done (by kernel_rfl) ?_ _
                gi_wp2
                refine ⟨(Ext.out X7.out.drew _), HW2.out.ext X7.out.drew, _, X7.out.blk HG2.out (fun f => f), ?_⟩
                first | rw [Hsn.out, Hse.out, List.append_nil] | rw [Hpre.out, Hse.out, List.append_nil]
                exact HO2.out.ext X7.out.drew
              · have hkb : (((e.key.kind.toNat : Nat) : Int) != 1) = true := by simp; omega
                have hip : isPut e = true := by unfold isPut; simpa using hk
                have Hse1 : Hid (seenG L q g = if decide (coverE L e.key.user q ≤ e.key.seq.toNat) = true then [pairOf e] else []) := Lib.hid (by rw [Hse0.out, hip, Bool.true_and])
                have HC9 := Lib.hid (HL7.out.ext (Out.refl _ _).drew)
                have Hu7 := Lib.hid ((Hu.out.ext X7.out).drew)
                have HCV := Lib.hid (HC9.out.cover e.key.user Hu7.out)
                clear hk hip Hse0
                generalize coverE L e.key.user q = cv at *
                by_cases hcv : cv ≤ e.key.seq.toNat
                · have hcvi : (cv : Int) ≤ (e.key.seq.toNat : Int) := by omega
                  have Hse : Hid (seenG L q g = [pairOf e]) := Lib.hid (by rw [Hse1.out, if_pos (decide_eq_true hcv)])
                  clear hcv Hse1
                  refine region_BI 99 (fun w' => w'.cell? ⟨w6.heap.size, 0, none⟩ = some (.slice U1 N1 n1) ∧ w'.cell? ⟨w6.heap.size, 1, none⟩ = some (u64V e.key.seq) ∧ w'.cell? ⟨w6.heap.size, 2, none⟩ = some (byteV e.key.kind) ∧ w'.cell? ⟨w1.heap.size, 0, none⟩ = some (.pointer (some ⟨T, 0, none⟩)) ∧ w'.cell? ⟨w.heap.size, 0, none⟩ = some (.int .u64 (q : Int))) (by kernel_rfl) (by kernel_rfl) (by rintro ⟨aO, wO, hO⟩; exact hO) ?q78_20b1S (fun hHeld0 => ?_)
                  case q78_20b1S => ((first | go_keep | ((try dsimp only); exact ⟨by assumption, by assumption, by assumption, by assumption, by assumption⟩)))
                  refine anyB_take (i := 0) (oi := _) (v := ?q78_20b1v1) rfl (by kernel_rfl) (by kernel_rfl) (by kernel_rfl) (by kernel_rfl) (fun _ _ _ h => h) (Or.inl ⟨by rfl, ?q78_20b1h1⟩) (by assumption) ?q78_20b1r1
                  case q78_20b1h1 => (intro w hSw; (try dsimp only at hSw); go_simp; try with_reducible rfl)
                  (try simp only [List.getElem_toArray, List.getElem_cons_zero, Act.put, List.setIfInBounds_toArray, List.set_cons_zero, List.set_cons_succ])
                  refine anyB_take (i := 1) (oi := _) (v := ?q78_20b1v2) rfl (by kernel_rfl) (by kernel_rfl) (by kernel_rfl) (by kernel_rfl) (fun _ _ _ h => h) (Or.inl ⟨by rfl, ?q78_20b1h2⟩) (by assumption) ?q78_20b1r2
                  case q78_20b1h2 => (intro w hSw; (try dsimp only at hSw); go_simp; try with_reducible rfl)
                  (try simp only [List.getElem_toArray, List.getElem_cons_succ, List.getElem_cons_zero, Act.put, List.setIfInBounds_toArray, List.set_cons_zero, List.set_cons_succ])
                  refine anyB_take (i := 2) (oi := _) (v := ?q78_20b1v3) rfl (by kernel_rfl) (by kernel_rfl) (by kernel_rfl) (by kernel_rfl) (fun _ _ _ h => h) (Or.inl ⟨by rfl, ?q78_20b1h3⟩) (by assumption) ?q78_20b1r3
                  case q78_20b1h3 => (intro w hSw; (try dsimp only at hSw); go_simp; try with_reducible rfl)
                  (try simp only [List.getElem_toArray, List.getElem_cons_succ, List.getElem_cons_zero, Act.put, List.setIfInBounds_toArray, List.set_cons_zero, List.set_cons_succ])
                  refine anyB_take (i := 3) (oi := _) (v := ?q78_20b1v4) rfl (by kernel_rfl) (by kernel_rfl) (by kernel_rfl) (by kernel_rfl) (fun _ _ _ h => h) (Or.inl ⟨by rfl, ?q78_20b1h4⟩) (by assumption) ?q78_20b1r4
                  case q78_20b1h4 => (intro w hSw; (try dsimp only at hSw); go_simp; try with_reducible rfl)
                  (try simp only [List.getElem_toArray, List.getElem_cons_succ, List.getElem_cons_zero, Act.put, List.setIfInBounds_toArray, List.set_cons_zero, List.set_cons_succ])
                  refine anyB_take (i := 4) (oi := _) (v := ?q78_20b1v5) rfl (by kernel_rfl) (by kernel_rfl) (by kernel_rfl) (by kernel_rfl) (fun _ _ _ h => h) (Or.inl ⟨by rfl, ?q78_20b1h5⟩) (by assumption) ?q78_20b1r5
                  case q78_20b1h5 => (intro w hSw; (try dsimp only at hSw); go_simp; try with_reducible rfl)
                  (try simp only [List.getElem_toArray, List.getElem_cons_succ, List.getElem_cons_zero, Act.put, List.setIfInBounds_toArray, List.set_cons_zero, List.set_cons_succ])
                  refine anyB_take (i := 5) (oi := _) (v := ?q78_20b1v6) rfl (by kernel_rfl) (by kernel_rfl) (by kernel_rfl) (by kernel_rfl) (fun _ _ _ h => h) (Or.inl ⟨by rfl, ?q78_20b1h6⟩) (by assumption) ?q78_20b1r6
                  case q78_20b1h6 => (intro w hSw; (try dsimp only at hSw); go_simp; try with_reducible rfl)
                  (try simp only [List.getElem_toArray, List.getElem_cons_succ, List.getElem_cons_zero, Act.put, List.setIfInBounds_toArray, List.set_cons_zero, List.set_cons_succ])
                  refine anyB_take (i := 6) (oi := _) (v := ?q78_20b1v7) rfl (by kernel_rfl) (by kernel_rfl) (by kernel_rfl) (by kernel_rfl) (fun _ _ _ h => h) (Or.inl ⟨by rfl, ?q78_20b1h7⟩) (by assumption) ?q78_20b1r7
                  case q78_20b1h7 => (intro w hSw; (try dsimp only at hSw); go_simp; try with_reducible rfl)
                  (try simp only [List.getElem_toArray, List.getElem_cons_succ, List.getElem_cons_zero, Act.put, List.setIfInBounds_toArray, List.set_cons_zero, List.set_cons_succ])
                  refine anyB_take (i := 7) (oi := _) (v := ?q78_20b1v8) rfl (by kernel_rfl) (by kernel_rfl) (by kernel_rfl) (by kernel_rfl) (fun _ _ _ h => h) (Or.inl ⟨by rfl, ?q78_20b1h8⟩) (by assumption) ?q78_20b1r8
                  case q78_20b1h8 => (intro w hSw; (try dsimp only at hSw); go_simp; try with_reducible rfl)
                  (try simp only [List.getElem_toArray, List.getElem_cons_succ, List.getElem_cons_zero, Act.put, List.setIfInBounds_toArray, List.set_cons_zero, List.set_cons_succ])
                  refine anyB_take (i := 8) (oi := _) (v := ?q78_20b1v9) rfl (by kernel_rfl) (by kernel_rfl) (by kernel_rfl) (by kernel_rfl) (fun _ _ _ h => h) (Or.inl ⟨by rfl, ?q78_20b1h9⟩) (by assumption) ?q78_20b1r9
                  case q78_20b1h9 => (intro w hSw; (try dsimp only at hSw); go_simp; try with_reducible rfl)
                  (try simp only [List.getElem_toArray, List.getElem_cons_succ, List.getElem_cons_zero, Act.put, List.setIfInBounds_toArray, List.set_cons_zero, List.set_cons_succ])
                  refine anyB_take (i := 9) (oi := _) (v := ?q78_20b1v10) rfl (by kernel_rfl) (by kernel_rfl) (by kernel_rfl) (by kernel_rfl) (fun _ _ _ h => h) (Or.inl ⟨by rfl, ?q78_20b1h10⟩) (by assumption) ?q78_20b1r10
                  case q78_20b1h10 => (intro w hSw; (try dsimp only at hSw); go_simp; try with_reducible rfl)
                  (try simp only [List.getElem_toArray, List.getElem_cons_succ, List.getElem_cons_zero, Act.put, List.setIfInBounds_toArray, List.set_cons_zero, List.set_cons_succ])
                  refine anyB_take (i := 11) (oi := _) (v := ?q78_20b1v11) rfl (by kernel_rfl) (by kernel_rfl) (by kernel_rfl) (by kernel_rfl) (fun _ _ _ h => h) (Or.inl ⟨by rfl, ?q78_20b1h11⟩) (by assumption) ?q78_20b1r11
                  case q78_20b1h11 => (intro w hSw; (try dsimp only at hSw); go_simp; try with_reducible rfl)
                  (try simp only [List.getElem_toArray, List.getElem_cons_succ, List.getElem_cons_zero, Act.put, List.setIfInBounds_toArray, List.set_cons_zero, List.set_cons_succ])
                  refine anyB_take (i := 12) (oi := _) (v := ?q78_20b1v12) rfl (by kernel_rfl) (by kernel_rfl) (by kernel_rfl) (by kernel_rfl) (fun _ _ _ h => h) (Or.inl ⟨by rfl, ?q78_20b1h12⟩) (by assumption) ?q78_20b1r12
                  case q78_20b1h12 => (intro w hSw; (try dsimp only at hSw); go_simp; try with_reducible rfl)
                  (try simp only [List.getElem_toArray, List.getElem_cons_succ, List.getElem_cons_zero, Act.put, List.setIfInBounds_toArray, List.set_cons_zero, List.set_cons_succ])
                  refine anyB_take (i := 13) (oi := _) (v := ?q78_20b1v13) rfl (by kernel_rfl) (by kernel_rfl) (by kernel_rfl) (by kernel_rfl) (fun _ _ _ h => h) (Or.inl ⟨by rfl, ?q78_20b1h13⟩) (by assumption) ?q78_20b1r13
                  case q78_20b1h13 => (intro w hSw; (try dsimp only at hSw); go_simp; try with_reducible rfl)
                  (try simp only [List.getElem_toArray, List.getElem_cons_succ, List.getElem_cons_zero, Act.put, List.setIfInBounds_toArray, List.set_cons_zero, List.set_cons_succ])
                  refine anyB_step (i := 10) (o := _) (by kernel_rfl) (by rfl) (by (simp only [List.getElem?_toArray, List.getElem?_cons_succ, List.getElem?_cons_zero] <;> rfl)) (fun K hK => ?_)
                  rw [if_pos (by rfl)]
                  go_simp; go_at_call 139; refine HCV.out.mono ?_; rintro r w8 ⟨rfl, hx8⟩; have HX8 := Lib.hid hx8; obtain ⟨y0, y1, y2, y3, -⟩ := cells4 (hx8.blk (show (World.drew _).heap[_]? = _ from HZ7.out) (fun f => f)); have HL8 := Lib.hid (HC9.out.ext hx8); have ct8 := HL8.out.ct; have cq8 := HL8.out.cq; clear hx8
                  (try dsimp only)
                  refine hK.out _ _ ?q78_20b1S14 (fun hHeld1 => ?_)
                  case q78_20b1S14 => ((first | go_keep | ((try dsimp only); exact ⟨by assumption, by assumption, by assumption, by assumption, by assumption⟩)))
                  clear hK K hHeld0
                  (try simp only [List.getElem_toArray, List.getElem_cons_succ, List.getElem_cons_zero, Act.put, List.setIfInBounds_toArray, List.set_cons_zero, List.set_cons_succ])
                  refine anyB_take (i := 14) (oi := _) (v := ?q78_20b1v15) rfl (by kernel_rfl) (by kernel_rfl) (by kernel_rfl) (by kernel_rfl) (fun _ _ _ h => h) (Or.inl ⟨by rfl, ?q78_20b1h15⟩) (by assumption) ?q78_20b1r15
                  case q78_20b1h15 => (intro w hSw; (try dsimp only at hSw); go_simp; try with_reducible rfl)
                  (try simp only [List.getElem_toArray, List.getElem_cons_succ, List.getElem_cons_zero, Act.put, List.setIfInBounds_toArray, List.set_cons_zero, List.set_cons_succ])
                  refine anyB_take (i := 15) (oi := _) (v := ?q78_20b1v16) rfl (by kernel_rfl) (by kernel_rfl) (by kernel_rfl) (by kernel_rfl) (fun _ _ _ h => h) (Or.inl ⟨by rfl, ?q78_20b1h16⟩) (by assumption) ?q78_20b1r16
                  case q78_20b1h16 => (intro w hSw; (try dsimp only at hSw); go_simp; try with_reducible rfl)
                  (try simp only [List.getElem_toArray, List.getElem_cons_succ, List.getElem_cons_zero, Act.put, List.setIfInBounds_toArray, List.set_cons_zero, List.set_cons_succ])
                  refine anyB_done (by kernel_rfl) ?_ _
                  gi_wp2
                  have HBG8 := Lib.hid ((X7.out.drew.ext HX8.out).blk HG2.out (fun f => f))
                  obtain ⟨k0, kf⟩ := cells1 HBG8.out
                  have cg8 := HL8.out.cg
                  have HO8 := Lib.hid ((HO2.out.ext (X7.out.drew.ext HX8.out)).ext (Out.refl _ w8).drew)
                  have Hu8 := Lib.hid ((Hu.out.ext (X7.out.drew.ext HX8.out)).drew)
                  have Hv8 := Lib.hid ((Hv.out.ext (X7.out.drew.ext HX8.out)).drew)
                  have HZ8 := Lib.hid (HX8.out.blk (show (World.drew _).heap[_]? = _ from HZ7.out) (fun f => f))
                  have hzz8 := (X7.out.drew.ext HX8.out).size
                  clear ct8 cq8 ct7 cq7
                  refine region_BI 17 (fun w' => w'.cell? ⟨wp.heap.size + 1, 0, none⟩ = some (.pointer (some ⟨wp.heap.size, 0, none⟩)) ∧ w'.cell? ⟨wp.heap.size, 0, none⟩ = some (.slice A3 n3 c3) ∧ w'.cell? ⟨w6.heap.size, 0, none⟩ = some (.slice U1 N1 n1) ∧ w'.cell? ⟨w6.heap.size, 3, none⟩ = some (.slice V1 M1 m1)) (by kernel_rfl) (by kernel_rfl) (by rintro ⟨aO, wO, hO⟩; exact hO) ?q78_21S (fun hHeld0 => ?_)
                  case q78_21S => ((first | go_keep | ((try dsimp only); exact ⟨by assumption, by assumption, by assumption, by assumption⟩)))
                  refine anyB_take (i := 0) (oi := _) (v := ?q78_21v1) rfl (by kernel_rfl) (by kernel_rfl) (by kernel_rfl) (by kernel_rfl) (fun _ _ _ h => h) (Or.inl ⟨by rfl, ?q78_21h1⟩) (by assumption) ?q78_21r1
                  case q78_21h1 => (intro w hSw; (try dsimp only at hSw); go_simp; try with_reducible rfl)
                  (try simp only [List.getElem_toArray, List.getElem_cons_zero, Act.put, List.setIfInBounds_toArray, List.set_cons_zero, List.set_cons_succ])
                  refine anyB_take (i := 1) (oi := _) (v := ?q78_21v2) rfl (by kernel_rfl) (by kernel_rfl) (by kernel_rfl) (by kernel_rfl) (fun _ _ _ h => h) (Or.inl ⟨by rfl, ?q78_21h2⟩) (by assumption) ?q78_21r2
                  case q78_21h2 => (intro w hSw; (try dsimp only at hSw); go_simp; try with_reducible rfl)
                  (try simp only [List.getElem_toArray, List.getElem_cons_succ, List.getElem_cons_zero, Act.put, List.setIfInBounds_toArray, List.set_cons_zero, List.set_cons_succ])
                  refine anyB_take (i := 2) (oi := _) (v := ?q78_21v3) rfl (by kernel_rfl) (by kernel_rfl) (by kernel_rfl) (by kernel_rfl) (fun _ _ _ h => h) (Or.inl ⟨by rfl, ?q78_21h3⟩) (by assumption) ?q78_21r3
                  case q78_21h3 => (intro w hSw; (try dsimp only at hSw); go_simp; try with_reducible rfl)
                  (try simp only [List.getElem_toArray, List.getElem_cons_succ, List.getElem_cons_zero, Act.put, List.setIfInBounds_toArray, List.set_cons_zero, List.set_cons_succ])
                  refine anyB_take (i := 3) (oi := _) (v := ?q78_21v4) rfl (by kernel_rfl) (by kernel_rfl) (by kernel_rfl) (by kernel_rfl) (fun _ _ _ h => h) (Or.inl ⟨by rfl, ?q78_21h4⟩) (by assumption) ?q78_21r4
                  case q78_21h4 => (intro w hSw; (try dsimp only at hSw); go_simp; try with_reducible rfl)
                  (try simp only [List.getElem_toArray, List.getElem_cons_succ, List.getElem_cons_zero, Act.put, List.setIfInBounds_toArray, List.set_cons_zero, List.set_cons_succ])
                  refine anyB_take (i := 4) (oi := _) (v := ?q78_21v5) rfl (by kernel_rfl) (by kernel_rfl) (by kernel_rfl) (by kernel_rfl) (fun _ _ _ h => h) (Or.inl ⟨by rfl, ?q78_21h5⟩) (by assumption) ?q78_21r5
                  case q78_21h5 => (intro w hSw; (try dsimp only at hSw); go_simp; try with_reducible rfl)
                  (try simp only [List.getElem_toArray, List.getElem_cons_succ, List.getElem_cons_zero, Act.put, List.setIfInBounds_toArray, List.set_cons_zero, List.set_cons_succ])
                  refine anyB_take (i := 5) (oi := _) (v := ?q78_21v6) rfl (by kernel_rfl) (by kernel_rfl) (by kernel_rfl) (by kernel_rfl) (fun _ _ _ h => h) (Or.inl ⟨by rfl, ?q78_21h6⟩) (by assumption) ?q78_21r6
                  case q78_21h6 => (intro w hSw; (try dsimp only at hSw); go_simp; try with_reducible rfl)
                  (try simp only [List.getElem_toArray, List.getElem_cons_succ, List.getElem_cons_zero, Act.put, List.setIfInBounds_toArray, List.set_cons_zero, List.set_cons_succ])
                  refine anyB_take (i := 6) (oi := _) (v := ?q78_21v7) rfl (by kernel_rfl) (by kernel_rfl) (by kernel_rfl) (by kernel_rfl) (fun _ _ _ h => h) (Or.inl ⟨by rfl, ?q78_21h7⟩) (by assumption) ?q78_21r7
                  case q78_21h7 => (intro w hSw; (try dsimp only at hSw); go_simp; try with_reducible rfl)
                  (try simp only [List.getElem_toArray, List.getElem_cons_succ, List.getElem_cons_zero, Act.put, List.setIfInBounds_toArray, List.set_cons_zero, List.set_cons_succ])
                  refine anyB_take (i := 7) (oi := _) (v := ?q78_21v8) rfl (by kernel_rfl) (by kernel_rfl) (by kernel_rfl) (by kernel_rfl) (fun _ _ _ h => h) (Or.inl ⟨by rfl, ?q78_21h8⟩) (by assumption) ?q78_21r8
                  case q78_21h8 => (intro w hSw; (try dsimp only at hSw); go_simp; try with_reducible rfl)
                  (try simp only [List.getElem_toArray, List.getElem_cons_succ, List.getElem_cons_zero, Act.put, List.setIfInBounds_toArray, List.set_cons_zero, List.set_cons_succ])
                  refine anyB_take (i := 9) (oi := _) (v := ?q78_21v9) rfl (by kernel_rfl) (by kernel_rfl) (by kernel_rfl) (by kernel_rfl) (fun _ _ _ h => h) (Or.inl ⟨by rfl, ?q78_21h9⟩) (by assumption) ?q78_21r9
                  case q78_21h9 => (intro w hSw; (try dsimp only at hSw); go_simp; try with_reducible rfl)
                  (try simp only [List.getElem_toArray, List.getElem_cons_succ, List.getElem_cons_zero, Act.put, List.setIfInBounds_toArray, List.set_cons_zero, List.set_cons_succ])
                  refine anyB_take (i := 10) (oi := _) (v := ?q78_21v10) rfl (by kernel_rfl) (by kernel_rfl) (by kernel_rfl) (by kernel_rfl) (fun _ _ _ h => h) (Or.inl ⟨by rfl, ?q78_21h10⟩) (by assumption) ?q78_21r10
                  case q78_21h10 => (intro w hSw; (try dsimp only at hSw); go_simp; try with_reducible rfl)
                  (try simp only [List.getElem_toArray, List.getElem_cons_succ, List.getElem_cons_zero, Act.put, List.setIfInBounds_toArray, List.set_cons_zero, List.set_cons_succ])
                  refine anyB_step (i := 8) (o := _) (by kernel_rfl) (by rfl) (by (simp only [List.getElem?_toArray, List.getElem?_cons_succ, List.getElem?_cons_zero] <;> rfl)) (fun K hK => ?_)
                  go_simp; go_at_call 122; refine (bytes_clone _ Hu8.out).mono ?_; rintro r w9 ⟨x9, rfl, hx9, hb9⟩; obtain ⟨U9, k9, m9, rfl⟩ := hb9.form0; have HX9 := Lib.hid hx9; have Hb9 := Lib.hid hb9; have HO9 := Lib.hid (HO8.out.ext hx9); have Hv9 := Lib.hid (Hv8.out.ext hx9); have HG9 := Lib.hid (hx9.blk (show (World.drew _).heap[_]? = _ from HBG8.out) (fun f => f)); have HZ9 := Lib.hid (hx9.blk (show (World.drew _).heap[_]? = _ from HZ8.out) (fun f => f)); have cg9 := hx9.cell (show (World.drew _).cell? _ = _ from cg8) (fun f => f); obtain ⟨p0, pf⟩ := cells1 HG9.out; obtain ⟨r0, r1, r2, r3, -⟩ := cells4 HZ9.out; have hz9 := hx9.size; simp only [World.size_drew] at hz9; clear hx9 hb9
                  (try dsimp only)
                  refine hK.out _ _ ?q78_21S11 (fun hHeld1 => ?_)
                  case q78_21S11 => ((first | go_keep | ((try dsimp only); exact ⟨by assumption, by assumption, by assumption, by assumption⟩)))
                  clear hK K hHeld0
                  (try simp only [List.getElem_toArray, List.getElem_cons_succ, List.getElem_cons_zero, Act.put, List.setIfInBounds_toArray, List.set_cons_zero, List.set_cons_succ])
                  refine anyB_step (i := 11) (o := _) (by kernel_rfl) (by rfl) (by (simp only [List.getElem?_toArray, List.getElem?_cons_succ, List.getElem?_cons_zero] <;> rfl)) (fun K hK => ?_)
                  go_simp; go_at_call 122; refine (bytes_clone _ Hv9.out).mono ?_; rintro r w10 ⟨x10, rfl, hx10, hb10⟩; obtain ⟨V10, k10, m10, rfl⟩ := hb10.form0; have HX10 := Lib.hid hx10; have Hb10 := Lib.hid hb10; have Hb9b := Lib.hid (Hb9.out.ext hx10); have HO10 := Lib.hid (HO9.out.ext hx10); have HG10 := Lib.hid (hx10.blk HG9.out (fun f => f)); have HZ10 := Lib.hid (hx10.blk HZ9.out (fun f => f)); have cg10 := hx10.cell cg9 (fun f => f); obtain ⟨s0, sf⟩ := cells1 HG10.out; obtain ⟨t0, t1, t2, t3, -⟩ := cells4 HZ10.out; have hz10 := hx10.size; clear hx10 hb10
                  (try dsimp only)
                  refine hK.out _ _ ?q78_21S12 (fun hHeld2 => ?_)
                  case q78_21S12 => ((first | go_keep | ((try dsimp only); exact ⟨by assumption, by assumption, by assumption, by assumption⟩)))
                  clear hK K hHeld1
                  (try simp only [List.getElem_toArray, List.getElem_cons_succ, List.getElem_cons_zero, Act.put, List.setIfInBounds_toArray, List.set_cons_zero, List.set_cons_succ])
                  refine anyB_take (i := 12) (oi := _) (v := ?q78_21v13) rfl (by kernel_rfl) (by kernel_rfl) (by kernel_rfl) (by kernel_rfl) (fun _ _ _ h => h) (Or.inl ⟨by rfl, ?q78_21h13⟩) (by assumption) ?q78_21r13
                  case q78_21h13 => (intro w hSw; (try dsimp only at hSw); go_simp; try with_reducible rfl)
                  (try simp only [List.getElem_toArray, List.getElem_cons_succ, List.getElem_cons_zero, Act.put, List.setIfInBounds_toArray, List.set_cons_zero, List.set_cons_succ])
                  refine anyB_step (i := 13) (o := _) (by kernel_rfl) (by rfl) (by (simp only [List.getElem?_toArray, List.getElem?_cons_succ, List.getElem?_cons_zero] <;> rfl)) (fun K hK => ?_)
                  go_simp
                  refine hK.out _ _ ?q78_21S14 (fun hHeld3 => ?_)
                  case q78_21S14 => ((first | go_keep | ((try dsimp only); exact ⟨by assumption, by assumption, by assumption, by assumption⟩)))
                  clear hK K hHeld2
                  (try simp only [List.getElem_toArray, List.getElem_cons_succ, List.getElem_cons_zero, Act.put, List.setIfInBounds_toArray, List.set_cons_zero, List.set_cons_succ])
                  refine anyB_step (i := 14) (o := _) (by kernel_rfl) (by rfl) (by (simp only [List.getElem?_toArray, List.getElem?_cons_succ, List.getElem?_cons_zero] <;> rfl)) (fun K hK => ?_)
                  refine step_append_one (by rfl) (.tmp 84) (.tmp 93) 93 (by rfl) fits107 (HO10.out.ext (Ext.alloc1 _ _)) (by rfl) (by (try simp only [World.size_alloc]); omega) (blk_new _ _) (by rfl) (pairOf e) ⟨_, _, rfl, (Hb9b.out.alloc _).mono (fun b hb _ => ⟨by simp only [World.size_drew] at hb; omega, fun e => by have := (Hlt2.out _ e).2; simp only [World.size_drew] at hb; omega⟩) (.inl (by decide)), (Hb10.out.alloc _).mono (fun b hb _ => ⟨by omega, fun e => by have := (Hlt2.out _ e).2; omega⟩) (.inl (by decide))⟩ (by omega) (by decide) ?_; intro v11 w11 g1 g2 g3; obtain ⟨A11, k11, m11, rfl⟩ := g1.form0; have G1 := Lib.hid g1; have G2 := Lib.hid g2; have HG11 := Lib.hid (g2.blk (blk_alloc HG10.out _) (fun e => by have := (Hlt2.out _ e).1; omega)); have HZ11 := Lib.hid (g2.blk (blk_alloc HZ10.out _) (fun e => by have := (Hlt2.out _ e).1; have := (Hlt2.out _ e).2; omega)); have cg11 := g2.cell (cell_alloc cg10 _) (fun e => by have := (Hlt2.out _ e).1; dsimp only at this; omega); obtain ⟨a0, af⟩ := cells1 HG11.out; obtain ⟨b0, b1', b2, b3, -⟩ := cells4 HZ11.out; have hlt11 := Lib.hid g1.lt; clear g1 g2 g3
                  refine hK.out _ _ ?q78_21S15 (fun hHeld4 => ?_)
                  case q78_21S15 => ((first | go_keep | ((try dsimp only); exact ⟨by assumption, by assumption, by assumption, by assumption⟩)))
                  clear hK K hHeld3
                  (try simp only [Act.put, List.setIfInBounds_toArray, List.set_cons_zero, List.set_cons_succ])
                  refine anyB_step (i := 15) (o := _) (by kernel_rfl) (by rfl) (by (simp only [List.getElem?_toArray, List.getElem?_cons_succ, List.getElem?_cons_zero] <;> rfl)) (fun K hK => ?_)
                  go_simp
                  refine hK.out _ _ ?q78_21S16 (fun hHeld5 => ?_)
                  case q78_21S16 => ((first | go_keep | ((try dsimp only); exact ⟨by assumption, by assumption, by assumption, by assumption⟩)))
                  clear hK K hHeld4
                  (try simp only [List.getElem_toArray, List.getElem_cons_succ, List.getElem_cons_zero, Act.put, List.setIfInBounds_toArray, List.set_cons_zero, List.set_cons_succ])
                  refine anyB_take (i := 16) (oi := _) (v := ?q78_21v17) rfl (by kernel_rfl) (by kernel_rfl) (by kernel_rfl) (by kernel_rfl) (fun _ _ _ h => h) (Or.inl ⟨by rfl, ?q78_21h17⟩) (by assumption) ?q78_21r17
                  case q78_21h17 => (intro w hSw; (try dsimp only at hSw); go_simp; try with_reducible rfl)
                  (try simp only [List.getElem_toArray, List.getElem_cons_succ, List.getElem_cons_zero, Act.put, List.setIfInBounds_toArray, List.set_cons_zero, List.set_cons_succ])
                  refine anyB_last (i := 17) (o := _) (by kernel_rfl) (by rfl) (by (simp only [List.getElem?_toArray, List.getElem?_cons_succ, List.getElem?_cons_zero] <;> rfl)) (fun K hK => ?_)
                  go_simp
                  refine hK.out _ _ ?_
                  clear hK K
                  (try simp only [List.getElem_toArray, List.getElem_cons_succ, List.getElem_cons_zero, Act.put, List.setIfInBounds_toArray, List.set_cons_zero, List.set_cons_succ])
                  refine anyB_done (by kernel_rfl) ?_ _
                  gi_wp2
                  have hos : Out (fun b => b = wp.heap.size) w11 (w11.setCell ⟨wp.heap.size, 0, none⟩ (.slice A11 k11 m11)) := (Out.refl (fun b => b = wp.heap.size) w11).setCell (p := ⟨wp.heap.size, 0, none⟩) (fun _ => rfl) _
                  have hE : Ext W2 w10 := ((X7.out.drew.ext HX8.out).drew.ext HX9.out).ext HX10.out
                  refine ⟨(((Ext.out hE _).alloc _).trans (G2.out.mono fun b _ h => (by have := (Hlt2.out b h).1; omega))).trans (hos.mono fun b _ h => (by omega)), (((HW2.out.ext hE).alloc _).then G2.out (fun b hb e => by have := (Hlt2.out b e).1; rw [hD] at hb; omega)).then hos (fun b hb e => .inl e), _, blk_set1 HG11.out _, ?_⟩
                  have hfin := G1.out.frame hos (fun b _ hb _ e => by omega) (fun b _ hb _ e => by omega)
                  first | rw [Hsn.out, Hse.out] | rw [Hpre.out, Hse.out]
                  exact hfin
                · have hcvi : ¬ (cv : Int) ≤ (e.key.seq.toNat : Int) := by omega
                  have Hse : Hid (seenG L q g = []) := Lib.hid (by rw [Hse1.out, if_neg (by simpa using hcv)])
                  clear hcv Hse1
                  refine region_BI 99 (fun w' => w'.cell? ⟨w6.heap.size, 0, none⟩ = some (.slice U1 N1 n1) ∧ w'.cell? ⟨w6.heap.size, 1, none⟩ = some (u64V e.key.seq) ∧ w'.cell? ⟨w6.heap.size, 2, none⟩ = some (byteV e.key.kind) ∧ w'.cell? ⟨w1.heap.size, 0, none⟩ = some (.pointer (some ⟨T, 0, none⟩)) ∧ w'.cell? ⟨w.heap.size, 0, none⟩ = some (.int .u64 (q : Int))) (by kernel_rfl) (by kernel_rfl) (by rintro ⟨aO, wO, hO⟩; exact hO) ?q78_20b2S (fun hHeld0 => ?_)
                  case q78_20b2S => ((first | go_keep | ((try dsimp only); exact ⟨by assumption, by assumption, by assumption, by assumption, by assumption⟩)))
                  refine anyB_take (i := 0) (oi := _) (v := ?q78_20b2v1) rfl (by kernel_rfl) (by kernel_rfl) (by kernel_rfl) (by kernel_rfl) (fun _ _ _ h => h) (Or.inl ⟨by rfl, ?q78_20b2h1⟩) (by assumption) ?q78_20b2r1
                  case q78_20b2h1 => (intro w hSw; (try dsimp only at hSw); go_simp; try with_reducible rfl)
                  (try simp only [List.getElem_toArray, List.getElem_cons_zero, Act.put, List.setIfInBounds_toArray, List.set_cons_zero, List.set_cons_succ])
                  refine anyB_take (i := 1) (oi := _) (v := ?q78_20b2v2) rfl (by kernel_rfl) (by kernel_rfl) (by kernel_rfl) (by kernel_rfl) (fun _ _ _ h => h) (Or.inl ⟨by rfl, ?q78_20b2h2⟩) (by assumption) ?q78_20b2r2
                  case q78_20b2h2 => (intro w hSw; (try dsimp only at hSw); go_simp; try with_reducible rfl)
                  (try simp only [List.getElem_toArray, List.getElem_cons_succ, List.getElem_cons_zero, Act.put, List.setIfInBounds_toArray, List.set_cons_zero, List.set_cons_succ])
                  refine anyB_take (i := 2) (oi := _) (v := ?q78_20b2v3) rfl (by kernel_rfl) (by kernel_rfl) (by kernel_rfl) (by kernel_rfl) (fun _ _ _ h => h) (Or.inl ⟨by rfl, ?q78_20b2h3⟩) (by assumption) ?q78_20b2r3
                  case q78_20b2h3 => (intro w hSw; (try dsimp only at hSw); go_simp; try with_reducible rfl)
                  (try simp only [List.getElem_toArray, List.getElem_cons_succ, List.getElem_cons_zero, Act.put, List.setIfInBounds_toArray, List.set_cons_zero, List.set_cons_succ])
                  refine anyB_take (i := 3) (oi := _) (v := ?q78_20b2v4) rfl (by kernel_rfl) (by kernel_rfl) (by kernel_rfl) (by kernel_rfl) (fun _ _ _ h => h) (Or.inl ⟨by rfl, ?q78_20b2h4⟩) (by assumption) ?q78_20b2r4
                  case q78_20b2h4 => (intro w hSw; (try dsimp only at hSw); go_simp; try with_reducible rfl)
                  (try simp only [List.getElem_toArray, List.getElem_cons_succ, List.getElem_cons_zero, Act.put, List.setIfInBounds_toArray, List.set_cons_zero, List.set_cons_succ])
                  refine anyB_take (i := 4) (oi := _) (v := ?q78_20b2v5) rfl (by kernel_rfl) (by kernel_rfl) (by kernel_rfl) (by kernel_rfl) (fun _ _ _ h => h) (Or.inl ⟨by rfl, ?q78_20b2h5⟩) (by assumption) ?q78_20b2r5
                  case q78_20b2h5 => (intro w hSw; (try dsimp only at hSw); go_simp; try with_reducible rfl)
                  (try simp only [List.getElem_toArray, List.getElem_cons_succ, List.getElem_cons_zero, Act.put, List.setIfInBounds_toArray, List.set_cons_zero, List.set_cons_succ])
                  refine anyB_take (i := 5) (oi := _) (v := ?q78_20b2v6) rfl (by kernel_rfl) (by kernel_rfl) (by kernel_rfl) (by kernel_rfl) (fun _ _ _ h => h) (Or.inl ⟨by rfl, ?q78_20b2h6⟩) (by assumption) ?q78_20b2r6
                  case q78_20b2h6 => (intro w hSw; (try dsimp only at hSw); go_simp; try with_reducible rfl)
                  (try simp only [List.getElem_toArray, List.getElem_cons_succ, List.getElem_cons_zero, Act.put, List.setIfInBounds_toArray, List.set_cons_zero, List.set_cons_succ])
                  refine anyB_take (i := 6) (oi := _) (v := ?q78_20b2v7) rfl (by kernel_rfl) (by kernel_rfl) (by kernel_rfl) (by kernel_rfl) (fun _ _ _ h => h) (Or.inl ⟨by rfl, ?q78_20b2h7⟩) (by assumption) ?q78_20b2r7
                  case q78_20b2h7 => (intro w hSw; (try dsimp only at hSw); go_simp; try with_reducible rfl)
                  (try simp only [List.getElem_toArray, List.getElem_cons_succ, List.getElem_cons_zero, Act.put, List.setIfInBounds_toArray, List.set_cons_zero, List.set_cons_succ])
                  refine anyB_take (i := 7) (oi := _) (v := ?q78_20b2v8) rfl (by kernel_rfl) (by kernel_rfl) (by kernel_rfl) (by kernel_rfl) (fun _ _ _ h => h) (Or.inl ⟨by rfl, ?q78_20b2h8⟩) (by assumption) ?q78_20b2r8
                  case q78_20b2h8 => (intro w hSw; (try dsimp only at hSw); go_simp; try with_reducible rfl)
                  (try simp only [List.getElem_toArray, List.getElem_cons_succ, List.getElem_cons_zero, Act.put, List.setIfInBounds_toArray, List.set_cons_zero, List.set_cons_succ])
                  refine anyB_take (i := 8) (oi := _) (v := ?q78_20b2v9) rfl (by kernel_rfl) (by kernel_rfl) (by kernel_rfl) (by kernel_rfl) (fun _ _ _ h => h) (Or.inl ⟨by rfl, ?q78_20b2h9⟩) (by assumption) ?q78_20b2r9
                  case q78_20b2h9 => (intro w hSw; (try dsimp only at hSw); go_simp; try with_reducible rfl)
                  (try simp only [List.getElem_toArray, List.getElem_cons_succ, List.getElem_cons_zero, Act.put, List.setIfInBounds_toArray, List.set_cons_zero, List.set_cons_succ])
                  refine anyB_take (i := 9) (oi := _) (v := ?q78_20b2v10) rfl (by kernel_rfl) (by kernel_rfl) (by kernel_rfl) (by kernel_rfl) (fun _ _ _ h => h) (Or.inl ⟨by rfl, ?q78_20b2h10⟩) (by assumption) ?q78_20b2r10
                  case q78_20b2h10 => (intro w hSw; (try dsimp only at hSw); go_simp; try with_reducible rfl)
                  (try simp only [List.getElem_toArray, List.getElem_cons_succ, List.getElem_cons_zero, Act.put, List.setIfInBounds_toArray, List.set_cons_zero, List.set_cons_succ])
                  refine anyB_take (i := 11) (oi := _) (v := ?q78_20b2v11) rfl (by kernel_rfl) (by kernel_rfl) (by kernel_rfl) (by kernel_rfl) (fun _ _ _ h => h) (Or.inl ⟨by rfl, ?q78_20b2h11⟩) (by assumption) ?q78_20b2r11
                  case q78_20b2h11 => (intro w hSw; (try dsimp only at hSw); go_simp; try with_reducible rfl)
                  (try simp only [List.getElem_toArray, List.getElem_cons_succ, List.getElem_cons_zero, Act.put, List.setIfInBounds_toArray, List.set_cons_zero, List.set_cons_succ])
                  refine anyB_take (i := 12) (oi := _) (v := ?q78_20b2v12) rfl (by kernel_rfl) (by kernel_rfl) (by kernel_rfl) (by kernel_rfl) (fun _ _ _ h => h) (Or.inl ⟨by rfl, ?q78_20b2h12⟩) (by assumption) ?q78_20b2r12
                  case q78_20b2h12 => (intro w hSw; (try dsimp only at hSw); go_simp; try with_reducible rfl)
                  (try simp only [List.getElem_toArray, List.getElem_cons_succ, List.getElem_cons_zero, Act.put, List.setIfInBounds_toArray, List.set_cons_zero, List.set_cons_succ])
                  refine anyB_take (i := 13) (oi := _) (v := ?q78_20b2v13) rfl (by kernel_rfl) (by kernel_rfl) (by kernel_rfl) (by kernel_rfl) (fun _ _ _ h => h) (Or.inl ⟨by rfl, ?q78_20b2h13⟩) (by assumption) ?q78_20b2r13
                  case q78_20b2h13 => (intro w hSw; (try dsimp only at hSw); go_simp; try with_reducible rfl)
                  (try simp only [List.getElem_toArray, List.getElem_cons_succ, List.getElem_cons_zero, Act.put, List.setIfInBounds_toArray, List.set_cons_zero, List.set_cons_succ])
                  refine anyB_step (i := 10) (o := _) (by kernel_rfl) (by rfl) (by (simp only [List.getElem?_toArray, List.getElem?_cons_succ, List.getElem?_cons_zero] <;> rfl)) (fun K hK => ?_)
                  rw [if_pos (by rfl)]
                  go_simp; go_at_call 139; refine HCV.out.mono ?_; rintro r w8 ⟨rfl, hx8⟩; have HX8 := Lib.hid hx8; obtain ⟨y0, y1, y2, y3, -⟩ := cells4 (hx8.blk (show (World.drew _).heap[_]? = _ from HZ7.out) (fun f => f)); have HL8 := Lib.hid (HC9.out.ext hx8); have ct8 := HL8.out.ct; have cq8 := HL8.out.cq; clear hx8
                  (try dsimp only)
                  refine hK.out _ _ ?q78_20b2S14 (fun hHeld1 => ?_)
                  case q78_20b2S14 => ((first | go_keep | ((try dsimp only); exact ⟨by assumption, by assumption, by assumption, by assumption, by assumption⟩)))
                  clear hK K hHeld0
                  (try simp only [List.getElem_toArray, List.getElem_cons_succ, List.getElem_cons_zero, Act.put, List.setIfInBounds_toArray, List.set_cons_zero, List.set_cons_succ])
                  refine anyB_take (i := 14) (oi := _) (v := ?q78_20b2v15) rfl (by kernel_rfl) (by kernel_rfl) (by kernel_rfl) (by kernel_rfl) (fun _ _ _ h => h) (Or.inl ⟨by rfl, ?q78_20b2h15⟩) (by assumption) ?q78_20b2r15
                  case q78_20b2h15 => (intro w hSw; (try dsimp only at hSw); go_simp; try with_reducible rfl)
                  (try simp only [List.getElem_toArray, List.getElem_cons_succ, List.getElem_cons_zero, Act.put, List.setIfInBounds_toArray, List.set_cons_zero, List.set_cons_succ])
                  refine anyB_take (i := 15) (oi := _) (v := ?q78_20b2v16) rfl (by kernel_rfl) (by kernel_rfl) (by kernel_rfl) (by kernel_rfl) (fun _ _ _ h => h) (Or.inl ⟨by rfl, ?q78_20b2h16⟩) (by assumption) ?q78_20b2r16
                  case q78_20b2h16 => (intro w hSw; (try dsimp only at hSw); go_simp; try with_reducible rfl)
                  (try simp only [List.getElem_toArray, List.getElem_cons_succ, List.getElem_cons_zero, Act.put, List.setIfInBounds_toArray, List.set_cons_zero, List.set_cons_succ])
                  refine anyB_done (by kernel_rfl) ?_ _
                  gi_wp2
                  refine ⟨(Ext.out (X7.out.drew.ext HX8.out) _), HW2.out.ext (X7.out.drew.ext HX8.out), _, (X7.out.drew.ext HX8.out).blk HG2.out (fun f => f), ?_⟩
                  first | rw [Hsn.out, Hse.out, List.append_nil] | rw [Hpre.out, Hse.out, List.append_nil]
                  exact HO2.out.ext (X7.out.drew.ext HX8.out)
          case done =>
            rintro xs W hS ⟨hout, v1, hG, hown⟩ hKW hdef
            obtain ⟨A3, n3, c3, rfl⟩ := hown.form0
            have hg1 := HLens.out.out hout (fun b hb e => by omega)
            have b0 := hg1.cg
            have Hs2 := Lib.hid (seen_groups hS Hsort.out L q)
            have Hout := Lib.hid hout
            have HG := Lib.hid hG
            have Hown := Lib.hid hown
            have Hdef := Lib.hid hdef
            have hlen := flatMap_len (seenG L q) (seenG_len L q) (xs.map (·.l))
            have hlen2 := hS.len
            clear hout hG hown hdef hg1 hKW hS
            go_wp2
            refine ⟨by simp, .inl ⟨_, _, rfl, run_takeDeferred Hdef.out, ?_⟩⟩
            have hput := out_putObj W (wp.heap.size + 3) (.deferred none)
            have hseen : (seenE l L q).length ≤ 1000 := by rw [← Hs2.out]; rw [List.length_map] at hlen hlen2; omega
            refine ⟨.tuple #[.pointer (some ⟨wp.heap.size, 0, none⟩), .int .i64 0], by simp [results, Try.results78, go_sem], wp.heap.size, .slice A3 n3 c3, rfl, ?_, ?_, ?_, ?_⟩
            · exact ((HXw.out.ext Hxr.out).then Hout.out (fun b hb e => by omega)).then hput (fun b hb e => by omega)
            · exact hput.blk HG.out (fun e => by omega)
            · rw [← Hs2.out]
              exact (Hown.out.frame hput (fun b _ hb _ e => by omega) (fun b _ hb _ e => by omega)).sl (by decide) (by show _ ≤ 140737488355328; rw [Hs2.out]; omega) (fun b hb _ => by omega) (fun b hb _ => by omega)
            · exact seenE_sorted Hsort.out L q
end Go.Proofs.Yteaanagljmcidaa
namespace Go.Proofs.Yteaanagljmcidaa
open Go.RowKit

attribute [local go_sem ↓] Go.wp_at_zero Go.wp_at_succ

/-- A string turned to bytes: a new row. -/
theorem conv_ext (w : World) (l : List UInt8) : Ext w (Lib.bytesWorld w 5 (strOf l)) :=
  ⟨rfl, rfl, rfl, by rw [Lib.bytesWorld_size]; omega, fun k hk _ => Lib.bytesWorld_at_old w 5 _ k hk⟩
theorem conv_bs (w : World) (l : List UInt8) (hl : l.length ≤ 1000000) : Bs (Lib.bytesWorld w 5 (strOf l)) (fun b => w.heap.size ≤ b) (.slice (some ⟨w.heap.size, 0, none⟩) (strOf l).size (grownCap w (strOf l).size 0 5)) l := by
  have hs : (strOf l).size = l.length := by simp [strOf, ByteArray.size]
  refine ⟨_, grownCap w (strOf l).size 0 5, by rw [hs], by rw [← hs]; exact grownCap_ge _ _ _ _, grownCap_le_maxLen _ _ _ _ (by rw [hs]; unfold maxLen; omega), by show l.length ≤ 140737488355328; omega, (fun h => by cases h), fun i hi => ?_⟩
  have hfr : ∀ j, j < l.length → (Lib.bytesWorld w 5 (strOf l)).frozen? ⟨w.heap.size, j, none⟩ = false := fun j hj => by
    have h1 : l.length ≤ (Lib.bytesCells w 5 (strOf l)).size := by simp [Lib.bytesCells, strOf]
    have h2 : ¬ (Lib.bytesCells w 5 (strOf l)).size ≤ j := by omega
    simp [World.frozen?, Lib.bytesWorld_at_new, h2]
  refine ⟨w.heap.size, 0, [byteV l[i]], rfl, Nat.le_refl _, ⟨fun j u hu => ?_, fun j hj => ?_⟩, rfl⟩
  rotate_left
  · have hj0 : j = 0 := by simpa using hj
    subst hj0
    rw [show 0 + i * byteC.size + 0 = i from by show 0 + i * 1 + 0 = i; omega]
    exact hfr i hi
  have hj : j = 0 := by
    have := (List.getElem?_eq_some_iff.1 hu).1
    simp at this; exact this
  subst hj
  have := Lib.bytesWorld_cell w 5 (strOf l) i (by rw [hs]; exact hi)
  rw [show 0 + i * byteC.size + 0 = i from by show 0 + i * 1 + 0 = i; omega, this]
  simp [strOf, List.getD, hi] at hu ⊢
  exact hu

set_option maxHeartbeats 400000 in
theorem law08_entry (w : World) (l : List UInt8) (hl : l.length ≤ 1000000) (s : UInt64) : Calls Try.prog 95 #[.string (strOf l), .int .u64 (s.toNat : Int)] w fun r w' => ∃ u, r = .returned (.agg #[u, u64V (⟨⟨l, s, 2⟩, []⟩ : Ent).key.seq, byteV (⟨⟨l, s, 2⟩, []⟩ : Ent).key.kind, .slice none 0 0]) ∧ Ext w w' ∧ Bs w' (fun b => w.heap.size ≤ b) u l := by
  have hcv := fun W => Lib.run_convert_string_bytes (P := Try.prog) W 9 27 5 (strOf l) Try.underlying9 Try.underlying27 Try.underlying5
  have hx := conv_ext (w.alloc (.cells #[.slice none 0 0, .int .u64 0, .int .u8 0, .slice none 0 0] 32)) l
  have hb := conv_bs (w.alloc (.cells #[.slice none 0 0, .int .u64 0, .int .u8 0, .slice none 0 0] 32)) l hl
  rw [World.size_alloc] at hb
  have hz := hx.blk (blk_new w (.cells #[.slice none 0 0, .int .u64 0, .int .u8 0, .slice none 0 0] 32)) (fun f => f)
  obtain ⟨z0, z1, z2, z3, zf⟩ := cells4 hz
  generalize strOf l = sl at *
  have Z := Lib.hid hz
  have Hx := Lib.hid hx
  have Hb := Lib.hid hb
  clear hx hb hz
  go_enter Try.func95, Try.ntmps95
  go_wp2
  generalize Lib.bytesWorld (w.alloc (.cells #[.slice none 0 0, .int .u64 0, .int .u8 0, .slice none 0 0] 32)) 5 sl = W1 at *
  generalize grownCap (w.alloc (.cells #[.slice none 0 0, .int .u64 0, .int .u8 0, .slice none 0 0] 32)) sl.size 0 5 = g at *
  obtain ⟨r0, r1, r2, r3, -⟩ := cells4 (blk_set4 Z.out (.slice (some ⟨w.heap.size + 1, 0, none⟩) sl.size g) (.int .u64 (s.toNat : Int)) (.int .u8 2) (.slice none 0 0))
  have ho := out_set4 (S := fun k => k = w.heap.size) (Out.refl _ W1) (g := w.heap.size) (fun _ => rfl) (.slice (some ⟨w.heap.size + 1, 0, none⟩) sl.size g) (.int .u64 (s.toNat : Int)) (.int .u8 2) (.slice none 0 0)
  have hx2 : Ext w W1 := (Ext.alloc1 w _).trans Hx.out
  refine bodyPost_ret (v := .agg #[.slice (some ⟨w.heap.size + 1, 0, none⟩) sl.size g, .int .u64 (s.toNat : Int), .int .u8 2, .slice none 0 0]) (by simp [results, Try.results95, go_sem, r0, r1, r2, r3]) rfl ⟨_, rfl, out_set4 hx2 (by simp) _ _ _ _, ?_⟩
  exact (Hb.out.out ho (fun b _ hb => by omega)).mono (fun b hb _ => by omega) (.inl (by decide))
end Go.Proofs.Yteaanagljmcidaa
namespace Go.Proofs.Yteaanagljmcidaa
open Go.RowKit

attribute [local go_sem ↓] Go.wp_at_zero Go.wp_at_succ

theorem law15_entry (w : World) (l m : List UInt8) (q : UInt64) (hl : l.length ≤ 1000000) (hm : m.length ≤ 1000000) : Calls Try.prog 114 #[.string (strOf l), u64V q, .string (strOf m)] w fun r w' => ∃ u v, r = .returned (.agg #[u, u64V (⟨⟨l, q, 2⟩, m⟩ : Ent).key.seq, byteV (⟨⟨l, q, 2⟩, m⟩ : Ent).key.kind, v]) ∧ Ext w w' ∧ Bs w' (fun b => w.heap.size ≤ b) u l ∧ Bs w' (fun b => w.heap.size ≤ b) v m := by
  have hcv := fun W => Lib.run_convert_string_bytes (P := Try.prog) W 9 27 5 (strOf l) Try.underlying9 Try.underlying27 Try.underlying5
  have hcm := fun W => Lib.run_convert_string_bytes (P := Try.prog) W 9 27 5 (strOf m) Try.underlying9 Try.underlying27 Try.underlying5
  have hx := conv_ext (w.alloc (.cells #[.slice none 0 0, .int .u64 0, .int .u8 0, .slice none 0 0] 32)) l
  have hb := conv_bs (w.alloc (.cells #[.slice none 0 0, .int .u64 0, .int .u8 0, .slice none 0 0] 32)) l hl
  have hy := conv_ext (Lib.bytesWorld (w.alloc (.cells #[.slice none 0 0, .int .u64 0, .int .u8 0, .slice none 0 0] 32)) 5 (strOf l)) m
  have hc := conv_bs (Lib.bytesWorld (w.alloc (.cells #[.slice none 0 0, .int .u64 0, .int .u8 0, .slice none 0 0] 32)) 5 (strOf l)) m hm
  rw [World.size_alloc] at hb
  rw [Lib.bytesWorld_size, World.size_alloc] at hc
  have hz := hy.blk (hx.blk (blk_new w (.cells #[.slice none 0 0, .int .u64 0, .int .u8 0, .slice none 0 0] 32)) (fun f => f)) (fun f => f)
  obtain ⟨z0, z1, z2, z3, zf⟩ := cells4 hz
  have Hs1 := Lib.hid (Lib.bytesWorld_size (w.alloc (.cells #[.slice none 0 0, .int .u64 0, .int .u8 0, .slice none 0 0] 32)) 5 (strOf l))
  have hs1 := Lib.bytesWorld_size (w.alloc (.cells #[.slice none 0 0, .int .u64 0, .int .u8 0, .slice none 0 0] 32)) 5 (strOf l)
  rw [World.size_alloc] at hs1
  generalize strOf l = sl at *
  generalize strOf m = sm at *
  have Z := Lib.hid hz
  have Hx := Lib.hid hx
  have Hb := Lib.hid hb
  have Hy := Lib.hid hy
  have Hc := Lib.hid hc
  clear hx hb hz hy hc
  go_enter Try.func114, Try.ntmps114
  go_wp2
  generalize Lib.bytesWorld (w.alloc (.cells #[.slice none 0 0, .int .u64 0, .int .u8 0, .slice none 0 0] 32)) 5 sl = W1 at *
  generalize grownCap (w.alloc (.cells #[.slice none 0 0, .int .u64 0, .int .u8 0, .slice none 0 0] 32)) sl.size 0 5 = g at *
  generalize Lib.bytesWorld W1 5 sm = W2 at *
  generalize grownCap W1 sm.size 0 5 = g2 at *
  obtain ⟨r0, r1, r2, r3, -⟩ := cells4 (blk_set4 Z.out (.slice (some ⟨w.heap.size + 1, 0, none⟩) sl.size g) (u64V q) (.int .u8 2) (.slice (some ⟨w.heap.size + 1 + 1, 0, none⟩) sm.size g2))
  have ho := out_set4 (S := fun k => k = w.heap.size) (Out.refl _ W2) (g := w.heap.size) (fun _ => rfl) (.slice (some ⟨w.heap.size + 1, 0, none⟩) sl.size g) (u64V q) (.int .u8 2) (.slice (some ⟨w.heap.size + 1 + 1, 0, none⟩) sm.size g2)
  have hx2 : Ext w W2 := ((Ext.alloc1 w _).trans Hx.out).trans Hy.out
  refine bodyPost_ret (v := .agg #[.slice (some ⟨w.heap.size + 1, 0, none⟩) sl.size g, u64V q, .int .u8 2, .slice (some ⟨w.heap.size + 1 + 1, 0, none⟩) sm.size g2]) (by simp [results, Try.results114, go_sem, r0, r1, r2, r3]) rfl ⟨_, _, rfl, out_set4 hx2 (by simp) _ _ _ _, ?_, ?_⟩
  · exact ((Hb.out.ext Hy.out).out ho (fun b _ hb => by omega)).mono (fun b hb _ => by omega) (.inl (by decide))
  · exact (Hc.out.out ho (fun b _ hb => by omega)).mono (fun b hb _ => by omega) (.inl (by decide))

theorem law15_entryI (w : World) (l m : List UInt8) (q : UInt64) (hl : l.length ≤ 1000000) (hm : m.length ≤ 1000000) (s t : ByteArray) (z : Int) (hs : s = strOf l) (ht : t = strOf m) (hz : z = (q.toNat : Int)) : Calls Try.prog 114 #[.string s, .int .u64 z, .string t] w fun r w' => ∃ u v, r = .returned (.agg #[u, u64V (⟨⟨l, q, 2⟩, m⟩ : Ent).key.seq, byteV (⟨⟨l, q, 2⟩, m⟩ : Ent).key.kind, v]) ∧ Ext w w' ∧ Bs w' (fun b => w.heap.size ≤ b) u l ∧ Bs w' (fun b => w.heap.size ≤ b) v m := by
  subst hs ht hz; exact law15_entry w l m q hl hm

/-- Two entries, two lists, in one block. -/
theorem Sl.twoG {α : Type} {c : Codec α} {w : World} {F : Nat → Prop} {g : Nat} {cs : Array Value} {t : TypeId} (h : w.heap[g]? = some (.cells cs t)) {x y : α} {xa xb : List Value} (hc : cs.toList = xa ++ xb) (hx : c.rep w F xa x) (hy : c.rep w F xb y) (hg : F g) (hb : 2 ≤ c.bound) : Sl c w F (.slice (some ⟨g, 0, none⟩) 2 2) [x, y] := by
  have hla := c.len hx
  have hlb := c.len hy
  have hcell : ∀ j, w.cell? ⟨g, j, none⟩ = (xa ++ xb)[j]? := fun j => by rw [blk_cell h, ← hc]; simp
  refine ⟨_, 2, rfl, by simp, by unfold maxLen; omega, hb, (fun h => by cases h), fun i hi => ?_⟩
  have hi2 : i < 2 := hi
  rcases (show i = 0 ∨ i = 1 by omega) with rfl | rfl
  · refine ⟨g, 0, xa, rfl, hg, ⟨fun j u hu => ?_, fun j _ => blk_free h _⟩, hx⟩
    have hj := (List.getElem?_eq_some_iff.1 hu).1
    rw [show 0 + 0 * c.size + j = j by omega, hcell, List.getElem?_append_left hj]; exact hu
  · refine ⟨g, 0, xb, rfl, hg, ⟨fun j u hu => ?_, fun j _ => blk_free h _⟩, hy⟩
    rw [show 0 + 1 * c.size + j = xa.length + j by omega, hcell, List.getElem?_append_right (by omega)]
    simpa using hu

/-- One byte in a new row, as a literal is laid. -/
theorem bytes1G (w : World) (a : UInt8) : Bs (w.alloc (.cells #[byteV a] 5 (1, 2))) (fun b => w.heap.size ≤ b) (.slice (some ⟨w.heap.size, 0, none⟩) 1 1) [a] := by
  have hb := blk_new w (.cells #[byteV a] 5 (1, 2))
  refine ⟨_, 1, rfl, by simp, by simp [maxLen], by show 1 ≤ 140737488355328; decide, (fun h => by cases h), fun i hi => ?_⟩
  have hi' : i = 0 := by simpa using hi
  subst hi'
  refine ⟨w.heap.size, 0, [byteV a], rfl, Nat.le_refl _, ⟨fun j u hu => ?_, fun j hj => ?_⟩, rfl⟩
  · have hj : j = 0 := by
      have := (List.getElem?_eq_some_iff.1 hu).1
      simp at this; exact this
    subst hj
    rw [cell_of_row _ _ _ _ _ (1, 2) hb]
    simpa [byteC] using hu
  · have hj : j = 0 := by simpa using hj
    subst hj
    unfold World.frozen?
    rw [hb]
    rfl

theorem str_ofG {w : World} {F : Nat → Prop} {v : Value} {l : List UInt8} (h : Bs w F v l) : (convert 27 9 v).run Try.prog w = .ok (.string (strOf l)) w :=
  run_bytes_string h Try.underlying27 Try.underlying5 Try.underlying9
def eG3 : Ent := ⟨⟨[97], 3, 2⟩, [121]⟩
def eG1 : Ent := ⟨⟨[97], 1, 2⟩, [120]⟩
def sG : SpanE := ⟨[97], [99], 2⟩
theorem aw15s : SortedE [eG3, eG1] := by unfold SortedE; decide
theorem aw15c : ∀ s ∈ [sG], scheck s = 0 := by decide
theorem aw15a : seenE [eG3, eG1] [sG] 1 = [⟨[97], [120]⟩] := by decide
theorem aw15b : seenE [eG3, eG1] [sG] 2 = [] := by decide
theorem aw15g : getP [⟨[97], [120]⟩] [97] = ([120], true) := by decide
theorem aw15k : keepE [eG3, eG1] [sG] true ((([] : List UInt64) ++ [maxSeq]).map (·.toNat)) = [eG3] := by decide +kernel
theorem aw15l : leftE [eG3] [sG] true = [] := by decide
/-- A list of one, in one block. -/
theorem Sl.oneG {α : Type} {c : Codec α} {w : World} {F : Nat → Prop} {g : Nat} {cs : Array Value} {t : TypeId} (h : w.heap[g]? = some (.cells cs t)) {x : α} (hx : c.rep w F cs.toList x) (hg : F g) (hb : 1 ≤ c.bound) : Sl c w F (.slice (some ⟨g, 0, none⟩) 1 1) [x] := by
  refine ⟨_, 1, rfl, by simp, by unfold maxLen; omega, hb, (fun h => by cases h), fun i hi => ?_⟩
  obtain rfl : i = 0 := by simp only [List.length_singleton] at hi; omega
  refine ⟨g, 0, cs.toList, rfl, hg, ⟨fun j u hu => ?_, fun j _ => blk_free h _⟩, hx⟩
  rw [show 0 + 0 * c.size + j = j by omega, blk_cell h]
  simpa using hu
theorem aw15_lists {w w1 w2 : World} {U1 V1 U2 V2 : Value} (x1 : Ext w w1) (u1 : Bs w1 (fun b => w.heap.size ≤ b) U1 eG3.key.user) (v1 : Bs w1 (fun b => w.heap.size ≤ b) V1 eG3.value) (x2 : Ext w1 w2) (u2 : Bs w2 (fun b => w1.heap.size ≤ b) U2 eG1.key.user) (v2 : Bs w2 (fun b => w1.heap.size ≤ b) V2 eG1.value)
    {W : World} (hW : W = ((((w2.alloc (.cells #[U1, u64V 3, byteV 2, V1, U2, u64V 1, byteV 2, V2] 32)).alloc (.cells #[.int .u8 97] 5 (1, 2))).alloc (.cells #[.int .u8 99] 5 (1, 2))).alloc (.cells #[.slice (some ⟨w2.heap.size + 1, 0, none⟩) 1 1, .slice (some ⟨w2.heap.size + 1 + 1, 0, none⟩) 1 1, .int .u64 2] 92))) :
    Ext w W ∧ Sl entC W (fun b => w.heap.size ≤ b ∧ b < W.heap.size) (.slice (some ⟨w2.heap.size, 0, none⟩) 2 2) [eG3, eG1] ∧ Sl spanC W (fun b => w.heap.size ≤ b ∧ b < W.heap.size) (.slice (some ⟨w2.heap.size + 1 + 1 + 1, 0, none⟩) 1 1) [sG] := by
  have s1 := x1.size
  have s2 := x2.size
  have low : ∀ {W0 : World} {U : Value} {l : List UInt8} {n : Nat}, Bs W0 (fun b => n ≤ b) U l → Ext W0 W → w.heap.size ≤ n → Bs W (fun b => w.heap.size ≤ b ∧ b < W.heap.size) U l := fun h hx hn => (h.ext hx).mono (fun b hb hl => ⟨Nat.le_trans hn hb, hl⟩) (.inl (by decide))
  have e3 : Ext w2 W := by rw [hW]; exact (((Ext.alloc1 _ _).alloc _).alloc _).alloc _
  have h1 := bytes1G (w2.alloc (.cells #[U1, u64V 3, byteV 2, V1, U2, u64V 1, byteV 2, V2] 32)) 97
  have h2 := bytes1G ((w2.alloc (.cells #[U1, u64V 3, byteV 2, V1, U2, u64V 1, byteV 2, V2] 32)).alloc (.cells #[.int .u8 97] 5 (1, 2))) 99
  simp only [World.size_alloc] at h1 h2
  have hz : W.heap.size = w2.heap.size + 4 := by rw [hW]; simp
  have eA : Ext ((w2.alloc (.cells #[U1, u64V 3, byteV 2, V1, U2, u64V 1, byteV 2, V2] 32)).alloc (.cells #[.int .u8 97] 5 (1, 2))) W := by rw [hW]; exact (Ext.alloc1 _ _).alloc _
  have eB : Ext (((w2.alloc (.cells #[U1, u64V 3, byteV 2, V1, U2, u64V 1, byteV 2, V2] 32)).alloc (.cells #[.int .u8 97] 5 (1, 2))).alloc (.cells #[.int .u8 99] 5 (1, 2))) W := by rw [hW]; exact Ext.alloc1 _ _
  have b1 : W.heap[w2.heap.size]? = some (.cells #[U1, u64V 3, byteV 2, V1, U2, u64V 1, byteV 2, V2] 32) := by rw [hW]; exact blk_alloc (blk_alloc (blk_alloc (blk_new _ _) _) _) _
  have b2 : W.heap[w2.heap.size + 1 + 1 + 1]? = some (.cells #[.slice (some ⟨w2.heap.size + 1, 0, none⟩) 1 1, .slice (some ⟨w2.heap.size + 1 + 1, 0, none⟩) 1 1, .int .u64 2] 92) := by rw [hW]; exact blk_at (by simp)
  refine ⟨(x1.ext x2).ext e3, ?_, ?_⟩
  · exact Sl.twoG b1 (xa := [U1, u64V 3, byteV 2, V1]) (xb := [U2, u64V 1, byteV 2, V2]) rfl ⟨_, _, rfl, low (u1.ext x2) e3 (Nat.le_refl _), low (v1.ext x2) e3 (Nat.le_refl _)⟩ ⟨_, _, rfl, low u2 e3 s1, low v2 e3 s1⟩ (by omega) (by decide)
  · exact Sl.oneG b2 ⟨_, _, rfl, low h1 eA (by omega), low h2 eB (by omega)⟩ (by omega) (by decide)
theorem gl_newI (w : World) {F H : Nat → Prop} {xv sv : Value} (l : List Ent) (L : List SpanE) (hx : Sl entC w F xv l) (hs : Sl spanC w H sv L) (hF : ∀ b, F b → b < w.heap.size) (hH : ∀ b, H b → b < w.heap.size) (hsort : SortedE l) (hL : ∀ s ∈ L, scheck s = 0) (hl1 : l.length ≤ 1000) (hl2 : L.length ≤ 1000) (z : Int) (q : Nat) (hz : z = (q : Int)) {m : List PairE} (hm : seenE l L q = m) :
    Calls Try.prog 78 #[xv, sv, .int .u64 z] w fun e w' => ∃ G v, e = .returned (.tuple #[.pointer (some ⟨G, 0, none⟩), .int .i64 0]) ∧ Ext w w' ∧ Gl w' (fun b => w.heap.size ≤ b) G v m := by
  subst hz hm; exact gl_new w l L hx hs hF hH hsort hL hl1 hl2 q
theorem aw15_get {w : World} {F H : Nat → Prop} {G : Nat} {v : Value} (h : Gl w F G v [⟨[97], [120]⟩]) {kv : Value} (hk : Bs w H kv [97]) :
    Calls Try.prog 115 #[.pointer (some ⟨G, 0, none⟩), kv] w fun r w' => ∃ x, r = .returned (.tuple #[x, .bool true]) ∧ Ext w w' ∧ Bs w' (fun b => w.heap.size ≤ b) x [120] := by
  have := gl_get h [97] hk
  rwa [aw15g] at this
theorem aw15_len {w : World} {F : Nat → Prop} {G : Nat} {v : Value} (h : Gl w F G v []) : Calls Try.prog 81 #[.pointer (some ⟨G, 0, none⟩)] w fun r w' => r = .returned (.int .i64 0) ∧ w = w' := gl_len h
theorem aw15_keep (w : World) {F H : Nat → Prop} {xv sv : Value} (hx : Sl entC w F xv [eG3, eG1]) (hs : Sl spanC w H sv [sG]) (hF : ∀ b, F b → b < w.heap.size) :
    Calls Try.prog 64 #[xv, sv, .bool true, .slice none 0 0] w fun e w' => ∃ A c x y B d, e = .returned (.tuple #[.slice (some A) 1 c, .slice B 0 d]) ∧ Ext w w' ∧ w'.cell? ⟨A.block, A.off + 1, none⟩ = some (u64V 3) ∧ A.spot = none ∧ w'.cell? ⟨A.block, A.off, none⟩ = some x ∧ w'.cell? ⟨A.block, A.off + 2, none⟩ = some (byteV 2) ∧ w'.cell? ⟨A.block, A.off + 3, none⟩ = some y := by
  refine (gl_keep w [eG3, eG1] [sG] [] true hx hs (Sl.nil _ _ (fun _ => False)) hF aw15s aw15c (by decide) (by decide) (by decide)).mono ?_
  rintro e w' ⟨a, b, rfl, hx', ha, hb⟩
  rw [aw15k] at ha hb
  rw [aw15l] at hb
  obtain ⟨b1, o1, cap, x, y, rfl, -, c0, c1, c2, c3, -⟩ := ha.ent0
  obtain ⟨B, d, rfl, -⟩ := hb.form
  exact ⟨⟨b1, o1, none⟩, cap, x, y, B, d, rfl, hx', c1, rfl, c0, c2, c3⟩

set_option maxRecDepth 100000 in
set_option maxHeartbeats 4000000 in
theorem law15_awake (w : World) : Calls Try.prog 61 #[] w fun e w' => e = .returned (.bool true) ∧ Ext w w' := by
  have kc := fun (w : World) (C : Array Value) (n c : Nat) => Lib.run_convert_bytes_const (P := Try.prog) w 27 5 C n c Try.underlying27 Try.underlying5
  have hsX : ((strOf [120]).toList == [120]) = true := by rw [strOf_toList]; decide
  go_enter Try.func61, Try.ntmps61
  obtain ⟨mk0, -⟩ : ∃ x : Nat, x = 0 := ⟨0, rfl⟩
  go_wp2_with (first
    | (have hh := mk0; clear hh; go_at_call 114; refine (law15_entryI _ [97] [121] 3 (by decide) (by decide) _ _ _ rfl rfl rfl).mono ?_; rintro r w1 ⟨u1, v1, rfl, hx1, hu1, hv1⟩; obtain ⟨U1, k1, m1, rfl⟩ := hu1.form0; obtain ⟨V1, p1, q1, rfl⟩ := hv1.form0; have HU1 := Lib.hid hu1; have HV1 := Lib.hid hv1; have HX1 := Lib.hid hx1; have hz1 := hx1.size; clear hu1 hv1 hx1 mk0; obtain ⟨mk1, -⟩ : ∃ x : Nat, x = 0 := ⟨0, rfl⟩)
    | (have hh := mk1; clear hh; go_at_call 114; refine (law15_entryI _ [97] [120] 1 (by decide) (by decide) _ _ _ rfl rfl rfl).mono ?_; rintro r w2 ⟨u2, v2, rfl, hx2, hu2, hv2⟩; obtain ⟨U2, k2, m2, rfl⟩ := hu2.form0; obtain ⟨V2, p2, q2, rfl⟩ := hv2.form0; have HU2 := Lib.hid hu2; have HV2 := Lib.hid hv2; have HX2 := Lib.hid hx2; have hz2 := hx2.size; clear hu2 hv2 hx2 mk1; obtain ⟨mk2, -⟩ : ∃ x : Nat, x = 0 := ⟨0, rfl⟩; have kA := kc (w2.alloc (.cells #[.slice U1 k1 m1, u64V 3, byteV 2, .slice V1 p1 q1, .slice U2 k2 m2, u64V 1, byteV 2, .slice V2 p2 q2] 32)) #[.int .u8 97] 1 1; have kB := kc ((w2.alloc (.cells #[.slice U1 k1 m1, u64V 3, byteV 2, .slice V1 p1 q1, .slice U2 k2 m2, u64V 1, byteV 2, .slice V2 p2 q2] 32)).alloc (.cells #[.int .u8 97] 5 (1, 2))) #[.int .u8 99] 1 1; simp only [World.size_alloc] at kA kB; obtain ⟨hE, hEl, hSl⟩ := aw15_lists HX1.out HU1.out HV1.out HX2.out HU2.out HV2.out rfl; have HE := Lib.hid hE; have HEl := Lib.hid hEl; have HSl := Lib.hid hSl; clear hE hEl hSl)
    | (have hh := mk2; clear hh; go_at_call 78; refine (gl_newI _ [eG3, eG1] [sG] HEl.out HSl.out (fun b hb => hb.2) (fun b hb => hb.2) aw15s aw15c (by decide) (by decide) _ 1 rfl aw15a).mono ?_; rintro r w3 ⟨G3, v3, rfl, hx3, hg3⟩; have HX3 := Lib.hid (HE.out.ext hx3); have HG3 := Lib.hid hg3; have HEl3 := Lib.hid (HEl.out.ext hx3); have HSl3 := Lib.hid (HSl.out.ext hx3); have Hz3 := Lib.hid hx3.size; clear mk2 hx3 hg3; obtain ⟨mk3, -⟩ : ∃ x : Nat, x = 0 := ⟨0, rfl⟩)
    | (have hh := mk3; clear hh; go_at_call 78; refine (gl_newI _ [eG3, eG1] [sG] HEl3.out HSl3.out (fun b hb => Nat.lt_of_lt_of_le hb.2 Hz3.out) (fun b hb => Nat.lt_of_lt_of_le hb.2 Hz3.out) aw15s aw15c (by decide) (by decide) _ 2 rfl aw15b).mono ?_; rintro r w4 ⟨G4, v4, rfl, hx4, hg4⟩; have HX4 := Lib.hid (HX3.out.ext hx4); have HG4 := Lib.hid hg4; have HG3b := Lib.hid (HG3.out.ext hx4); have HEl4 := Lib.hid (HEl3.out.ext hx4); have HSl4 := Lib.hid (HSl3.out.ext hx4); have Hz4 := Lib.hid (Nat.le_trans Hz3.out hx4.size); clear mk3 hx4 hg4)
    | (go_at_call 115; refine (aw15_get (HG3b.out.ext (Ext.alloc1 _ _)) (bytes1G w4 97)).mono ?_; rintro r w5 ⟨x5, rfl, hx5, hb5⟩; obtain ⟨A5, n5, c5, rfl⟩ := hb5.form0; have HX5 := Lib.hid ((HX4.out.alloc _).ext hx5); have HG5 := Lib.hid ((HG4.out.ext (Ext.alloc1 _ _)).ext hx5); have Hb5 := Lib.hid hb5; have HEl5 := Lib.hid ((HEl4.out.ext (Ext.alloc1 _ _)).ext hx5); have HSl5 := Lib.hid ((HSl4.out.ext (Ext.alloc1 _ _)).ext hx5); have hz5 : w4.heap.size ≤ w5.heap.size := (by have := hx5.size; simp only [World.size_alloc] at this; omega); have Hz5 := Lib.hid (Nat.le_trans Hz4.out hz5); clear hz5; clear hx5 hb5)
    | (go_at_call 64; refine (aw15_keep _ HEl5.out HSl5.out (fun b hb => Nat.lt_of_lt_of_le hb.2 Hz5.out)).mono ?_; rintro r w6 ⟨⟨A6, o6, s6⟩, c6, x6, y6, B6, d6, rfl, hx6, e1, rfl, e0, e2, e3⟩; dsimp only at e0 e1 e2 e3; have HX6 := Lib.hid (HX5.out.ext hx6); have HG6 := Lib.hid (HG5.out.ext hx6); have hs5 := str_ofG (Hb5.out.ext hx6); clear hx6)
    | (go_at_call 81; refine (aw15_len HG6.out).mono ?_; rintro r w7 ⟨rfl, rfl⟩))
  go_ret
  exact ⟨rfl, HX6.out⟩
end Go.Proofs.Yteaanagljmcidaa
