/- tomb: spans. tomb: Cover, All. -/
import Derived.Test.YteaanagljmcidaaLight
import Derived.Test.YteaanagljmcidaaLeaf
import Derived.Test.YteaanagljmcidaaLeaf2
import Derived.Test.YteaanagljmcidaaRegB
import Derived.Test.YteaanagljmcidaaPoke
import Derived.Deep.DeepCutAuto
namespace Go.Proofs.Yteaanagljmcidaa
open Go.RowKit

attribute [local go_sem ↓] Go.wp_at_zero Go.wp_at_succ

structure SpanE where
  frm : List UInt8
  til : List UInt8
  seq : UInt64
  deriving DecidableEq, Inhabited
def spanC : Codec SpanE where
  size := 3
  rep w F cs s := ∃ u v, cs = [u, v, u64V s.seq] ∧ Bs w F u s.frm ∧ Bs w F v s.til
  len := fun ⟨_, _, h, _⟩ => by rw [h]; rfl
  one := fun ⟨u, v, h, hb, hc⟩ x hx => by
    rw [h] at hx; obtain ⟨A, cap, rfl, _⟩ := hb.form; obtain ⟨A', cap', rfl, _⟩ := hc.form
    simp only [List.mem_cons, List.not_mem_nil, or_false] at hx
    rcases hx with rfl | rfl | rfl <;> rfl
  frame := fun ⟨u, v, h, hb, hc⟩ hF => ⟨u, v, h, hb.frame hF, hc.frame hF⟩
  mono := fun ⟨u, v, h, hb, hc⟩ hF => ⟨u, v, h, hb.mono hF (.inl (by decide)), hc.mono hF (.inl (by decide))⟩
theorem fits92 : Fits Try.prog 82 92 spanC.size 56 := fits_of Try.underlying82 (by decide) (by kernel_rfl : (Try.prog.info? 92).map (fun i => (i.zero, i.size, i.bytes)) = some (some (.agg #[.slice none 0 0, .slice none 0 0, .int .u64 0]), 3, 56)) rfl
theorem Sl.span {w : World} {F : Nat → Prop} {A : Option Addr} {n cap : Nat} {l : List SpanE} (h : Sl spanC w F (.slice A n cap) l) (i : Nat) (hi : i < l.length) :
    ∃ b off u v, A = some ⟨b, off, none⟩ ∧ F b ∧ w.cell? ⟨b, off + i * 3, none⟩ = some u ∧ w.cell? ⟨b, off + i * 3 + 1, none⟩ = some v ∧ w.cell? ⟨b, off + i * 3 + 2, none⟩ = some (u64V l[i].seq) ∧ Bs w F u l[i].frm ∧ Bs w F v l[i].til := by
  obtain ⟨b, off, cs, hA, hF, hat, u, v, rfl, h1, h2⟩ := h.get i hi
  exact ⟨b, off, u, v, hA, hF, hat 0 _ rfl, hat 1 _ rfl, hat 2 _ rfl, h1, h2⟩

/-- A span's fault. -/
def scheck (s : SpanE) : Int := if s.frm.length = 0 ∨ 64 < s.frm.length ∨ 64 < s.til.length ∨ Op.bytesLess s.frm s.til = false ∨ s.seq.toNat = 0 ∨ 72057594037927935 < s.seq.toNat then 4 else 0

set_option maxRecDepth 100000 in
set_option maxHeartbeats 2000000 in
theorem tomb_checkI (w : World) (U V : Option Addr) (a n b m k : Nat) (q : Bool)
    (HL : Calls Try.prog 128 #[.slice U a n, .slice V b m] (w.alloc (.cells #[.slice U a n, .slice V b m, .int .u64 k] 92)) fun e w' => e = .returned (.bool q) ∧ (w.alloc (.cells #[.slice U a n, .slice V b m, .int .u64 k] 92)) = w') :
    Calls Try.prog 165 #[.agg #[.slice U a n, .slice V b m, .int .u64 k]] w fun e w' => e = .returned (.int .i64 (if a = 0 ∨ 64 < a ∨ 64 < b ∨ q = false ∨ k = 0 ∨ 72057594037927935 < k then 4 else 0)) ∧ Ext w w' := by
  obtain ⟨z0, z1, z2, -⟩ := cells3 (blk_new w (.cells #[.slice U a n, .slice V b m, .int .u64 k] 92))
  have X1 := Lib.hid (Ext.alloc1 w (.cells #[.slice U a n, .slice V b m, .int .u64 k] 92))
  have H := Lib.hid HL
  clear HL
  cases q
  all_goals
    go_enter Try.func165, Try.ntmps165
    go_wp2_with (go_at_call 128; refine H.out.mono ?_; rintro r w1 ⟨rfl, rfl⟩)
  all_goals
    go_ret
    refine ⟨ret_of ?_, (by first | exact X1.out | exact Ext.alloc1 _ _ | exact Out.refl _ _)⟩
    (try simp only [beq_iff_eq, bne_iff_ne, beq_eq_false_iff_ne, bne_eq_false_iff_eq, ne_eq] at *) <;> (first | omega | (split <;> first | rfl | omega) | (simp <;> omega))
theorem tomb_check (w : World) {F G : Nat → Prop} {u v : Value} (s : SpanE) (hu : Bs w F u s.frm) (hv : Bs w G v s.til) : Calls Try.prog 165 #[.agg #[u, v, u64V s.seq]] w fun e w' => e = .returned (.int .i64 (scheck s)) ∧ Ext w w' := by
  obtain ⟨U, n, rfl, -⟩ := hu.form
  obtain ⟨V, m, rfl, -⟩ := hv.form
  exact tomb_checkI w U V _ n _ m s.seq.toNat _ (atom_less _ (hu.alloc _) (hv.alloc _))

/-- A span of its own comes back. -/
def SpanCopied (w : World) (s : SpanE) (x : Ending) (w' : World) : Prop :=
  ∃ u v, x = .returned (.agg #[u, v, u64V s.seq]) ∧ Ext w w' ∧ Bs w' (fun b => w.heap.size ≤ b) u s.frm ∧ Bs w' (fun b => w.heap.size ≤ b) v s.til

set_option maxRecDepth 100000 in
set_option maxHeartbeats 2000000 in
theorem tomb_one (w : World) {F G : Nat → Prop} {u v : Value} (s : SpanE) (hu : Bs w F u s.frm) (hv : Bs w G v s.til) : Calls Try.prog 161 #[.agg #[u, v, u64V s.seq]] w (SpanCopied w s) := by
  obtain ⟨U, N, n, rfl⟩ := hu.form0
  obtain ⟨V, M, m, rfl⟩ := hv.form0
  have hx : Ext w ((w.alloc (.cells #[.slice U N n, .slice V M m, u64V s.seq] 92)).alloc (.cells #[.slice none 0 0, .slice none 0 0, .int .u64 0] 92)) := ((Out.refl _ w).alloc _).alloc _
  have hz := blk_alloc (blk_new w (.cells #[.slice U N n, .slice V M m, u64V s.seq] 92)) (.cells #[.slice none 0 0, .slice none 0 0, .int .u64 0] 92)
  obtain ⟨z0, z1, z2, -⟩ := cells3 hz
  have Z := Lib.hid (blk_at (w := w.alloc (.cells #[.slice U N n, .slice V M m, u64V s.seq] 92)) (o := .cells #[.slice none 0 0, .slice none 0 0, .int .u64 0] 92) (n := w.heap.size + 1) (by simp))
  have Hu := Lib.hid (hu.ext hx).drew
  have Hv := Lib.hid (hv.ext hx).drew
  have HX := Lib.hid hx
  clear hu hv hx hz
  obtain ⟨mk1, -⟩ : ∃ x : Nat, x = 0 := ⟨0, rfl⟩
  go_enter Try.func161, Try.ntmps161
  go_wp2
  go_region_held3 (fun w' => w'.cell? ⟨w.heap.size, 0, none⟩ = some (.slice U N n) ∧ w'.cell? ⟨w.heap.size, 1, none⟩ = some (.slice V M m) ∧ w'.cell? ⟨w.heap.size, 2, none⟩ = some (u64V s.seq))
    (first | go_keep | (exact ⟨hx2.cell y0 (fun f => f), hx2.cell y1 (fun f => f), hx2.cell y2 (fun f => f)⟩) | (exact ⟨hx1.cell z0 (fun f => f), hx1.cell z1 (fun f => f), hx1.cell z2 (fun f => f)⟩) | ((try dsimp only); refine ⟨?_, ?_, ?_⟩ <;> (iterate 3 rw [setCell_other (fun e => by injection e with e1; omega)]) <;> assumption))
    (first
      | (have hh := mk1; clear hh; go_at_call 122; refine (bytes_clone _ Hu.out).mono ?_; rintro r w1 ⟨u1, rfl, hx1, hb1⟩; obtain ⟨U1, N1, n1, rfl⟩ := hb1.form0; have y0 := hx1.cell z0 (fun f => f); have y1 := hx1.cell z1 (fun f => f); have y2 := hx1.cell z2 (fun f => f); have Hv1 := Lib.hid (Hv.out.ext hx1); have Hb1 := Lib.hid hb1; clear hb1 mk1)
      | (go_at_call 122; refine (bytes_clone _ Hv1.out).mono ?_; rintro r w2 ⟨u2, rfl, hx2, hb2⟩; obtain ⟨U2, N2, n2, rfl⟩ := hb2.form0; have x0 := hx2.cell y0 (fun f => f); have x1 := hx2.cell y1 (fun f => f); have x2 := hx2.cell y2 (fun f => f); obtain ⟨t0, t1, t2, tf⟩ := cells3 (hx2.blk (hx1.blk (show (World.drew _).heap[_]? = _ from Z.out) (fun f => f)) (fun f => f)); have Hb2 := Lib.hid hb2; clear hb2))
  have hR := hx2.blk (hx1.blk (show (World.drew _).heap[_]? = _ from Z.out) (fun f => f)) (fun f => f)
  obtain ⟨r0, r1, r2, -⟩ := cells3 (blk_set3 hR (.slice U1 N1 n1) (.slice U2 N2 n2) (u64V s.seq))
  have ho := out_set3 (S := fun b => b = w.heap.size + 1) (Out.refl _ w2) (g := w.heap.size + 1) (fun _ => rfl) (.slice U1 N1 n1) (.slice U2 N2 n2) (u64V s.seq)
  have hs1 := hx1.size
  simp only [World.size_drew, World.size_alloc] at hs1
  go_wp2
  refine bodyPost_ret (v := .agg #[.slice U1 N1 n1, .slice U2 N2 n2, u64V s.seq]) (by simp [results, Try.results161, go_sem, r0, r1, r2]) rfl ?_
  have hxx : Ext w w2 := ((HX.out.drew).ext hx1).ext hx2
  exact ⟨_, _, rfl, hxx.then ho (fun b hb e => by omega), ((Hb1.out.ext hx2).out ho (fun b _ hb e => by simp at hb; omega)).mono (fun b hb _ => by simp at hb; omega) (.inl (by decide)), (Hb2.out.out ho (fun b _ hb e => by omega)).mono (fun b hb _ => by omega) (.inl (by decide))⟩

/-- The set of spans at T. -/
structure Tb (w : World) (F : Nat → Prop) (T : Nat) (v : Value) (l : List SpanE) : Prop where
  blk : w.heap[T]? = some (.cells #[v] 210)
  own : Own spanC 92 w 0 F v l
  ne : v.ownBlock ≠ some T
  cold : ¬ F T
variable {w w' : World} {F G : Nat → Prop} {T : Nat} {v : Value} {l : List SpanE}
theorem Tb.frame {S : Nat → Prop} (h : Tb w F T v l) (ho : Out S w w') (hT : ¬ S T) (hv : ∀ b, v.ownBlock = some b → ¬ S b) (hF : ∀ b, b < w.heap.size → F b → ¬ S b) : Tb w' F T v l :=
  ⟨ho.blk h.blk hT, h.own.frame ho (fun b _ _ hb => hv b hb) (fun b hb hf _ => hF b hb hf), h.ne, h.cold⟩
theorem Tb.ext (h : Tb w F T v l) (ho : Ext w w') : Tb w' F T v l := h.frame ho (fun f => f) (fun _ _ f => f) (fun _ _ _ f => f)

theorem tomb_covers (w : World) {F G H : Nat → Prop} {u v x : Value} (s : SpanE) (k : List UInt8) (hu : Bs w F u s.frm) (hv : Bs w G v s.til) (hx : Bs w H x k) :
    Calls Try.prog 164 #[.agg #[u, v, u64V s.seq], x] w fun e w' => e = .returned (.bool (!Op.bytesLess k s.frm && Op.bytesLess k s.til)) ∧ Ext w w' := by
  obtain ⟨U, N, n, rfl⟩ := hu.form0
  obtain ⟨V, M, m, rfl⟩ := hv.form0
  obtain ⟨X, P, p, rfl⟩ := hx.form0
  have x1 := Ext.alloc1 w (.cells #[.slice U N n, .slice V M m, u64V s.seq] 92)
  obtain ⟨z0, z1, z2, -⟩ := cells3 (blk_new w (.cells #[.slice U N n, .slice V M m, u64V s.seq] 92))
  have H1 := Lib.hid (atom_less (w.alloc (.cells #[.slice U N n, .slice V M m, u64V s.seq] 92)) (hx.ext x1) (hu.ext x1))
  have H2 := Lib.hid (atom_less (w.alloc (.cells #[.slice U N n, .slice V M m, u64V s.seq] 92)) (hx.ext x1) (hv.ext x1))
  have X1 := Lib.hid x1
  generalize Op.bytesLess k s.frm = a at *
  generalize Op.bytesLess k s.til = b at *
  clear hu hv hx x1
  obtain ⟨mk1, -⟩ : ∃ x : Nat, x = 0 := ⟨0, rfl⟩
  cases a
  · go_enter Try.func164, Try.ntmps164
    go_wp2_with (first
      | (have hh := mk1; clear hh; go_at_call 128; refine H1.out.mono ?_; rintro r w1 ⟨rfl, rfl⟩; clear mk1)
      | (go_at_call 128; refine H2.out.mono ?_; rintro r w1 ⟨rfl, rfl⟩))
    go_ret
    exact ⟨by simp, X1.out⟩
  · go_enter Try.func164, Try.ntmps164
    go_wp2_with (go_at_call 128; refine H1.out.mono ?_; rintro r w1 ⟨rfl, rfl⟩)
    go_ret
    exact ⟨by simp, X1.out⟩

theorem tomb_newNil (w : World) : Calls Try.prog 117 #[.slice none 0 0] w fun e w' => ∃ T, e = .returned (.pointer (some ⟨T, 0, none⟩)) ∧ Ext w w' ∧ T = w.heap.size ∧ Tb w' (fun b => w.heap.size < b) T (.slice none 0 0) [] := by
  go_enter Try.func117, Try.ntmps117
  go_wp2
  go_loopw [10] (fun s10 wr => s10 = .int .i64 0 ∧ wr = w.alloc (.cells #[.slice none 0 0] 210)) (fun _ _ => 0)
  case atStart => exact ⟨rfl, rfl⟩
  case round =>
    obtain ⟨rfl, rfl⟩ := hrel
    go_wp2
    go_ret
    exact ⟨_, rfl, Ext.alloc1 _ _, rfl, blk_new _ _, Own.nil _ _ _ _ _, (fun e => by cases e), fun h => Nat.lt_irrefl _ h⟩

set_option maxRecDepth 100000 in
set_option maxHeartbeats 2000000 in
theorem tomb_addNo (h : Tb w F T v l) {u x : Value} (s : SpanE) (hu : Bs w G u s.frm) (hx : Bs w G x s.til) (hc : scheck s ≠ 0) :
    Calls Try.prog 140 #[.pointer (some ⟨T, 0, none⟩), .agg #[u, x, u64V s.seq]] w fun e w' => e = .returned (.int .i64 (scheck s)) ∧ Ext w w' := by
  obtain ⟨U, N, n, rfl⟩ := hu.form0
  obtain ⟨X, M, m, rfl⟩ := hx.form0
  have x1 := Ext.alloc1 w (.cells #[.slice U N n, .slice X M m, u64V s.seq] 92)
  obtain ⟨z0, z1, z2, -⟩ := cells3 (blk_new w (.cells #[.slice U N n, .slice X M m, u64V s.seq] 92))
  have HC := Lib.hid (tomb_check (w.alloc (.cells #[.slice U N n, .slice X M m, u64V s.seq] 92)) s (hu.ext x1) (hx.ext x1))
  have X1 := Lib.hid x1
  generalize scheck s = c at *
  have hcb : (c != 0) = true := by simpa using hc
  clear h hu hx x1 hc
  go_enter Try.func140, Try.ntmps140
  go_wp2_with (go_at_call 165; refine HC.out.mono ?_; rintro r w1 ⟨rfl, hx1⟩)
  go_ret
  exact ⟨rfl, X1.out.ext hx1⟩

set_option maxRecDepth 100000 in
set_option maxHeartbeats 2000000 in
theorem tomb_add (h : Tb w F T v l) {u x : Value} (s : SpanE) (hu : Bs w G u s.frm) (hx : Bs w G x s.til) (hc : scheck s = 0) (hl : l.length ≤ 1000000) :
    Calls Try.prog 140 #[.pointer (some ⟨T, 0, none⟩), .agg #[u, x, u64V s.seq]] w fun e w' => e = .returned (.int .i64 0) ∧ Out (fun b => b = T ∨ v.ownBlock = some b) w w' ∧
      ∃ v', Tb w' (fun b => F b ∨ w.heap.size ≤ b) T v' (l ++ [s]) ∧ (v'.ownBlock = v.ownBlock ∨ ∃ g, v'.ownBlock = some g ∧ w.heap.size ≤ g) := by
  obtain ⟨U, N, n, rfl⟩ := hu.form0
  obtain ⟨X, M, m, rfl⟩ := hx.form0
  obtain ⟨V, K, k, rfl⟩ := h.own.form0
  have hT := blk_lt h.blk
  have x1 := Ext.alloc1 w (.cells #[.slice U N n, .slice X M m, u64V s.seq] 92)
  obtain ⟨z0, z1, z2, -⟩ := cells3 (blk_new w (.cells #[.slice U N n, .slice X M m, u64V s.seq] 92))
  have Z := Lib.hid (blk_new w (.cells #[.slice U N n, .slice X M m, u64V s.seq] 92))
  have HC := Lib.hid (tomb_check (w.alloc (.cells #[.slice U N n, .slice X M m, u64V s.seq] 92)) s (hu.ext x1) (hx.ext x1))
  have Hu := Lib.hid (hu.ext x1)
  have Hx := Lib.hid (hx.ext x1)
  have H1 := Lib.hid (h.ext x1)
  have HOw := Lib.hid ((h.own.mono (G := fun b => (F b ∨ w.heap.size ≤ b) ∧ b ≠ T) (fun b hb _ => ⟨.inl hb, fun e => h.cold (e ▸ hb)⟩)).ext x1)
  have HLt := Lib.hid h.own.lt
  have HNe := Lib.hid h.ne
  have HCo := Lib.hid h.cold
  have X1 := Lib.hid x1
  rw [hc] at HC
  clear h hu hx x1
  go_enter Try.func140, Try.ntmps140
  go_upto_region 6 with (go_at_call 165; refine HC.out.mono ?_; rintro r w1 ⟨rfl, hx1⟩; have HX1 := Lib.hid hx1; obtain ⟨y0, y1, y2, -⟩ := cells3 (hx1.blk Z.out (fun f => f)); obtain ⟨t0, tf⟩ := cells1 (hx1.blk H1.out.blk (fun f => f)); have hs1 := hx1.size; simp only [World.size_alloc] at hs1; clear hx1)
  go_cut [] (fun wx => ∃ v', Out (fun b => b = T ∨ (Value.slice V K k).ownBlock = some b) w wx ∧ Tb wx (fun b => F b ∨ w.heap.size ≤ b) T v' (l ++ [s]) ∧ (v'.ownBlock = (Value.slice V K k).ownBlock ∨ ∃ g, v'.ownBlock = some g ∧ w.heap.size ≤ g))
  case first =>
    have HX := Lib.hid (X1.out.ext HX1.out : Ext w w1)
    have Hu1 := Lib.hid (Hu.out.ext HX1.out).drew
    have Hx1 := Lib.hid (Hx.out.ext HX1.out).drew
    have HO1 := Lib.hid ((HOw.out.ext HX1.out).ext (Out.refl _ w1).drew)
    have HB1 := Lib.hid (HX1.out.blk H1.out.blk (fun f => f))
    have HZ1 := Lib.hid (HX1.out.blk Z.out (fun f => f))
    refine region_B 11 (fun w' => w'.cell? ⟨T, 0, none⟩ = some (.slice V K k) ∧ w'.cell? ⟨w.heap.size, 0, none⟩ = some (.slice U N n) ∧ w'.cell? ⟨w.heap.size, 1, none⟩ = some (.slice X M m) ∧ w'.cell? ⟨w.heap.size, 2, none⟩ = some (u64V s.seq)) (by kernel_rfl) ?q140_6S (fun hHeld0 => ?_)
    case q140_6S => ((first | go_keep | ((try dsimp only); exact ⟨by assumption, by assumption, by assumption, by assumption⟩)))
    refine anyB_take (i := 0) (oi := _) (v := ?q140_6v1) rfl (by kernel_rfl) (by kernel_rfl) (by kernel_rfl) (by kernel_rfl) (fun _ _ _ h => h) (Or.inl ⟨by rfl, ?q140_6h1⟩) (by assumption) ?q140_6r1
    case q140_6h1 => (intro w hSw; (try dsimp only at hSw); go_simp; try with_reducible rfl)
    (try simp only [List.getElem_toArray, List.getElem_cons_succ, List.getElem_cons_zero, Act.put, List.setIfInBounds_toArray, List.set_cons_zero, List.set_cons_succ])
    refine anyB_take (i := 1) (oi := _) (v := ?q140_6v2) rfl (by kernel_rfl) (by kernel_rfl) (by kernel_rfl) (by kernel_rfl) (fun _ _ _ h => h) (Or.inl ⟨by rfl, ?q140_6h2⟩) (by assumption) ?q140_6r2
    case q140_6h2 => (intro w hSw; (try dsimp only at hSw); go_simp; try with_reducible rfl)
    (try simp only [List.getElem_toArray, List.getElem_cons_succ, List.getElem_cons_zero, Act.put, List.setIfInBounds_toArray, List.set_cons_zero, List.set_cons_succ])
    refine anyB_take (i := 2) (oi := _) (v := ?q140_6v3) rfl (by kernel_rfl) (by kernel_rfl) (by kernel_rfl) (by kernel_rfl) (fun _ _ _ h => h) (Or.inl ⟨by rfl, ?q140_6h3⟩) (by assumption) ?q140_6r3
    case q140_6h3 => (intro w hSw; (try dsimp only at hSw); go_simp; try with_reducible rfl)
    (try simp only [List.getElem_toArray, List.getElem_cons_succ, List.getElem_cons_zero, Act.put, List.setIfInBounds_toArray, List.set_cons_zero, List.set_cons_succ])
    refine anyB_take (i := 3) (oi := _) (v := ?q140_6v4) rfl (by kernel_rfl) (by kernel_rfl) (by kernel_rfl) (by kernel_rfl) (fun _ _ _ h => h) (Or.inl ⟨by rfl, ?q140_6h4⟩) (by assumption) ?q140_6r4
    case q140_6h4 => (intro w hSw; (try dsimp only at hSw); go_simp; try with_reducible rfl)
    (try simp only [List.getElem_toArray, List.getElem_cons_succ, List.getElem_cons_zero, Act.put, List.setIfInBounds_toArray, List.set_cons_zero, List.set_cons_succ])
    refine anyB_take (i := 4) (oi := _) (v := ?q140_6v5) rfl (by kernel_rfl) (by kernel_rfl) (by kernel_rfl) (by kernel_rfl) (fun _ _ _ h => h) (Or.inl ⟨by rfl, ?q140_6h5⟩) (by assumption) ?q140_6r5
    case q140_6h5 => (intro w hSw; (try dsimp only at hSw); go_simp; try with_reducible rfl)
    (try simp only [List.getElem_toArray, List.getElem_cons_succ, List.getElem_cons_zero, Act.put, List.setIfInBounds_toArray, List.set_cons_zero, List.set_cons_succ])
    refine anyB_take (i := 5) (oi := _) (v := ?q140_6v6) rfl (by kernel_rfl) (by kernel_rfl) (by kernel_rfl) (by kernel_rfl) (fun _ _ _ h => h) (Or.inl ⟨by rfl, ?q140_6h6⟩) (by assumption) ?q140_6r6
    case q140_6h6 => (intro w hSw; (try dsimp only at hSw); go_simp; try with_reducible rfl)
    (try simp only [List.getElem_toArray, List.getElem_cons_succ, List.getElem_cons_zero, Act.put, List.setIfInBounds_toArray, List.set_cons_zero, List.set_cons_succ])
    refine anyB_step (i := 6) (o := _) (by kernel_rfl) (by rfl) (by (simp only [List.getElem?_toArray, List.getElem?_cons_succ, List.getElem?_cons_zero] <;> rfl)) (fun K hK => ?_)
    go_simp; go_at_call 161; refine (tomb_one _ s Hu1.out Hx1.out).mono ?_; rintro r w2 ⟨u2, x2, rfl, hx2, hu2, hv2⟩; obtain ⟨U2, N2, n2, rfl⟩ := hu2.form0; obtain ⟨X2, M2, m2, rfl⟩ := hv2.form0; have HX2 := Lib.hid hx2; have Hu2 := Lib.hid hu2; have Hv2 := Lib.hid hv2; have hs2 := hx2.size; simp only [World.size_drew] at hs2; have a0 := (cells1 (hx2.blk (show (World.drew _).heap[_]? = _ from HB1.out) (fun f => f))).1; obtain ⟨b0, b1, b2, -⟩ := cells3 (hx2.blk (show (World.drew _).heap[_]? = _ from HZ1.out) (fun f => f)); clear hx2 hu2 hv2
    (try dsimp only)
    refine hK.out _ _ ?q140_6S7 (fun hHeld1 => ?_)
    case q140_6S7 => ((first | go_keep | ((try dsimp only); exact ⟨by assumption, by assumption, by assumption, by assumption⟩)))
    clear hK K hHeld0
    (try simp only [List.getElem_toArray, List.getElem_cons_succ, List.getElem_cons_zero, Act.put, List.setIfInBounds_toArray, List.set_cons_zero, List.set_cons_succ])
    refine anyB_step (i := 7) (o := _) (by kernel_rfl) (by rfl) (by (simp only [List.getElem?_toArray, List.getElem?_cons_succ, List.getElem?_cons_zero] <;> rfl)) (fun K hK => ?_)
    go_simp
    refine hK.out _ _ ?q140_6S8 (fun hHeld2 => ?_)
    case q140_6S8 => ((first | go_keep | ((try dsimp only); exact ⟨by assumption, by assumption, by assumption, by assumption⟩)))
    clear hK K hHeld1
    (try simp only [List.getElem_toArray, List.getElem_cons_succ, List.getElem_cons_zero, Act.put, List.setIfInBounds_toArray, List.set_cons_zero, List.set_cons_succ])
    refine anyB_step (i := 8) (o := _) (by kernel_rfl) (by rfl) (by (simp only [List.getElem?_toArray, List.getElem?_cons_succ, List.getElem?_cons_zero] <;> rfl)) (fun K hK => ?_)
    refine step_append_one (by rfl) (.tmp 17) (.tmp 20) 82 (by rfl) fits92 ((HO1.out.ext HX2.out).ext (Ext.alloc1 _ _)) (by rfl) (by (try simp only [World.size_alloc]); omega) (blk_new _ _) (by rfl) s ⟨_, _, rfl, (Hu2.out.alloc _).mono (fun b hb _ => ⟨⟨.inr (by simp at hb; omega), by simp at hb; omega⟩, fun e => by have := (HLt.out _ e).2; simp at hb; omega⟩) (.inl (by decide)), (Hv2.out.alloc _).mono (fun b hb _ => ⟨⟨.inr (by simp at hb; omega), by simp at hb; omega⟩, fun e => by have := (HLt.out _ e).2; simp at hb; omega⟩) (.inl (by decide))⟩ (by omega) (by decide) ?_; intro v9 w9 g1 g2 g3; obtain ⟨A9, k9, m9, rfl⟩ := g1.form0; have G1 := Lib.hid g1; have G2 := Lib.hid g2; have G3 := Lib.hid g3; have HB9 := Lib.hid (g2.blk (blk_alloc (HX2.out.blk (show (World.drew _).heap[_]? = _ from HB1.out) (fun f => f)) _) (fun e => HNe.out e)); obtain ⟨c0, cf⟩ := cells1 HB9.out; obtain ⟨d0, d1, d2, -⟩ := cells3 (g2.blk (blk_alloc (HX2.out.blk (show (World.drew _).heap[_]? = _ from HZ1.out) (fun f => f)) _) (fun e => by have := (HLt.out _ e).2; omega)); clear g1 g2 g3
    refine hK.out _ _ ?q140_6S9 (fun hHeld3 => ?_)
    case q140_6S9 => ((first | go_keep | ((try dsimp only); exact ⟨by assumption, by assumption, by assumption, by assumption⟩)))
    clear hK K hHeld2
    (try simp only [List.getElem_toArray, List.getElem_cons_succ, List.getElem_cons_zero, Act.put, List.setIfInBounds_toArray, List.set_cons_zero, List.set_cons_succ])
    refine anyB_step (i := 9) (o := _) (by kernel_rfl) (by rfl) (by (simp only [List.getElem?_toArray, List.getElem?_cons_succ, List.getElem?_cons_zero] <;> rfl)) (fun K hK => ?_)
    go_simp
    refine hK.out _ _ ?q140_6S10 (fun hHeld4 => ?_)
    case q140_6S10 => ((first | go_keep | ((try dsimp only); exact ⟨by assumption, by assumption, by assumption, by assumption⟩)))
    clear hK K hHeld3
    (try simp only [List.getElem_toArray, List.getElem_cons_succ, List.getElem_cons_zero, Act.put, List.setIfInBounds_toArray, List.set_cons_zero, List.set_cons_succ])
    refine anyB_take (i := 10) (oi := _) (v := ?q140_6v11) rfl (by kernel_rfl) (by kernel_rfl) (by kernel_rfl) (by kernel_rfl) (fun _ _ _ h => h) (Or.inl ⟨by rfl, ?q140_6h11⟩) (by assumption) ?q140_6r11
    case q140_6h11 => (intro w hSw; (try dsimp only at hSw); go_simp; try with_reducible rfl)
    (try simp only [List.getElem_toArray, List.getElem_cons_succ, List.getElem_cons_zero, Act.put, List.setIfInBounds_toArray, List.set_cons_zero, List.set_cons_succ])
    refine anyB_last (i := 11) (o := _) (by kernel_rfl) (by rfl) (by (simp only [List.getElem?_toArray, List.getElem?_cons_succ, List.getElem?_cons_zero] <;> rfl)) (fun K hK => ?_)
    go_simp
    refine hK.out _ _ ?_
    clear hK K
    (try simp only [List.getElem_toArray, List.getElem_cons_succ, List.getElem_cons_zero, Act.put, List.setIfInBounds_toArray, List.set_cons_zero, List.set_cons_succ])
    refine anyB_done (by kernel_rfl) ?_ _
    go_wp2
    go_meet
    have ho : Out (fun b => b = T) w9 (w9.setCell ⟨T, 0, none⟩ (.slice A9 k9 m9)) := (Out.refl (fun b => b = T) w9).setCell (p := ⟨T, 0, none⟩) (fun _ => rfl) _
    have hw : Ext w w2 := (HX.out.drew).ext HX2.out
    have hne9 : (Value.slice A9 k9 m9).ownBlock ≠ some T := fun e => by exact G3.out.elim (fun h => HNe.out (h ▸ e)) (fun h => by rw [h] at e; injection e with e; simp at e; omega)
    refine ⟨_, (((Ext.out hw _).alloc _).trans (G2.out.mono fun _ _ h => .inr h)).trans (ho.mono fun _ _ h => .inl h), ⟨by have := blk_set HB9.out 0 (.slice A9 k9 m9); simpa using this, ?_, hne9, fun h => h.elim HCo.out (fun h => by omega)⟩, ?_⟩
    exact (G1.out.frame ho (fun b _ _ hb e => hne9 (e ▸ hb)) (fun b _ hb _ e => hb.2 e)).mono (fun b hb _ => hb.1)
    exact G3.out.imp id fun h => ⟨_, h, by simp; omega⟩
  case rest =>
    obtain ⟨v', ho, ht, hv⟩ := hcut
    go_wp2
    go_ret
    exact ⟨rfl, ho, v', ht, hv⟩
end Go.Proofs.Yteaanagljmcidaa
namespace Go.Proofs.Yteaanagljmcidaa
open Go.RowKit

attribute [local go_sem ↓] Go.wp_at_zero Go.wp_at_succ
variable {w w' : World} {F G H : Nat → Prop} {T : Nat} {v : Value} {l : List SpanE}

def coversB (s : SpanE) (k : List UInt8) : Bool := !Op.bytesLess k s.frm && Op.bytesLess k s.til
def coverStep (k : List UInt8) (q : Nat) (best : Nat) (s : SpanE) : Nat := if s.seq.toNat ≤ q ∧ coversB s k = true then max best s.seq.toNat else best
/-- The greatest number over a key. -/
def coverE (l : List SpanE) (k : List UInt8) (q : Nat) : Nat := l.foldl (coverStep k q) 0
theorem coverE_succ {l : List SpanE} {i : Nat} (hi : i < l.length) (k : List UInt8) (q : Nat) : coverE (l.take (i + 1)) k q = coverStep k q (coverE (l.take i) k q) l[i] := by
  unfold coverE
  rw [List.take_succ_eq_append_getElem hi, List.foldl_append]; rfl
theorem Own.spanAt {B : Nat} (h : Own spanC 92 w B F v l) (i : Nat) (hi : i < l.length) : ∃ R cap x y, v = .slice (some ⟨R, 0, none⟩) l.length cap ∧ R < w.heap.size ∧
    w.cell? ⟨R, i * 3, none⟩ = some x ∧ w.cell? ⟨R, i * 3 + 1, none⟩ = some y ∧ w.cell? ⟨R, i * 3 + 2, none⟩ = some (u64V l[i].seq) ∧ Bs w (fun b => F b ∧ b ≠ R) x l[i].frm ∧ Bs w (fun b => F b ∧ b ≠ R) y l[i].til := by
  obtain ⟨xs, ho, he⟩ := h
  obtain ⟨cs', hc', x, y, rfl, hb1, hb2⟩ := he i hi
  rcases ho.2 with ⟨rfl, h0⟩ | ⟨R, cap, cur, rfl, hb, hg, hnc, _⟩
  · omega
  · have key : ∀ j u, j < 3 → [x, y, u64V l[i].seq][j]? = some u → w.cell? ⟨R, i * 3 + j, none⟩ = some u := by
      intro j u hj hu
      have h1 := hc' j hj
      rw [hu] at h1
      have h2 := ho.cells (g := R) rfl (i * 3 + j) u h1
      rwa [show (⟨R, 0, none⟩ : Addr).add (i * 3 + j) = ⟨R, i * 3 + j, none⟩ from by unfold Addr.add; split <;> simp_all] at h2
    exact ⟨R, cap, x, y, rfl, blk_lt hg, key 0 _ (by omega) rfl, key 1 _ (by omega) rfl, key 2 _ (by omega) rfl,
      hb1.mono (fun b hb _ => ⟨hb.1, fun e => hb.2 (by rw [e]; rfl)⟩) (.inl (by decide)), hb2.mono (fun b hb _ => ⟨hb.1, fun e => hb.2 (by rw [e]; rfl)⟩) (.inl (by decide))⟩

set_option maxRecDepth 100000 in
set_option maxHeartbeats 4000000 in
theorem tomb_cover (h : Tb w F T v l) {x : Value} (k : List UInt8) (hx : Bs w H x k) (q : Nat) :
    Calls Try.prog 139 #[.pointer (some ⟨T, 0, none⟩), x, .int .u64 (q : Int)] w fun e w' => e = .returned (.int .u64 (coverE l k q : Nat)) ∧ Ext w w' := by
  obtain ⟨X, M, m, rfl⟩ := hx.form0
  obtain ⟨V, c, rfl, -⟩ := h.own.form
  have hmax' : l.length ≤ 9223372036854775807 := by obtain ⟨xs, ho, -⟩ := h.own; rcases ho.2 with ⟨-, h0⟩ | ⟨g, cap, cur, -, -, -, h1, h2, -⟩ <;> (try unfold maxLen at *) <;> omega
  obtain ⟨r0, rf⟩ := cells1 h.blk
  have H0 := Lib.hid h
  have Hk := Lib.hid hx
  clear h hx
  go_enter Try.func139, Try.ntmps139
  go_wp2
  go_loopw [7, 17] (fun s7 s17 wr => ∃ i : Nat, i ≤ l.length ∧ s17 = .int .i64 i ∧ s7 = .int .u64 (coverE (l.take i) k q : Nat) ∧ Ext w wr) (fun _ s17 _ => l.length - (intOf s17).toNat)
  case atStart => exact ⟨0, Nat.zero_le _, rfl, rfl, Out.refl _ _⟩
  case round =>
    obtain ⟨wo, rfl⟩ : ∃ x : World, x = wr := ⟨_, rfl⟩
    obtain ⟨i, hi, rfl, rfl, hxi⟩ := hrel
    have HX := Lib.hid hxi
    clear hxi
    by_cases hlt : i < l.length
    · obtain ⟨R, rc, ux, uy, hv, hR, e0, e1, e2, hu, hv2⟩ := (H0.out.ext HX.out).own.spanAt i hlt
      injection hv with hV _ hc
      subst hV hc
      obtain ⟨U, N1, n1, rfl⟩ := hu.form0
      obtain ⟨V2, N2, n2, rfl⟩ := hv2.form0
      have x1 := Ext.alloc1 wo (.cells #[.slice U N1 n1, .slice V2 N2 n2, u64V l[i].seq] 92)
      have hz := blk_new wo (.cells #[.slice U N1 n1, .slice V2 N2 n2, u64V l[i].seq] 92)
      obtain ⟨z0, z1, z2, -⟩ := cells3 hz
      have Hz := Lib.hid hz
      have HC := Lib.hid (tomb_covers (wo.alloc (.cells #[.slice U N1 n1, .slice V2 N2 n2, u64V l[i].seq] 92)) l[i] k (hu.ext x1) (hv2.ext x1) ((Hk.out.ext HX.out).ext x1))
      have X1 := Lib.hid (HX.out.ext x1)
      have Hs := Lib.hid (coverE_succ hlt k q)
      have hlim : ((l[i].seq.toNat : Int)) ≤ 18446744073709551615 := by have := l[i].seq.toNat_lt; omega
      clear hu hv2 hz x1
      generalize coverE (l.take i) k q = best at *
      by_cases hq : l[i].seq.toNat ≤ q
      · cases hcv : (!Op.bytesLess k l[i].frm && Op.bytesLess k l[i].til) with
        | true =>
          rw [hcv] at HC
          have Hs' : Hid (coverE (l.take (i + 1)) k q = max best l[i].seq.toNat) := Lib.hid (by rw [Hs.out]; unfold coverStep; exact if_pos ⟨hq, hcv⟩)
          clear hcv
          go_wp2_with (go_at_call 164; refine HC.out.mono ?_; rintro r w1 ⟨rfl, hx1⟩; obtain ⟨y0, y1, y2, -⟩ := cells3 (hx1.blk Hz.out (fun f => f)))
          go_roundw
          case rel => exact ⟨i + 1, by omega, by go_num, by rw [Hs'.out]; congr 1; omega, X1.out.ext hx1⟩
          case measure => simp [intOf]; omega
        | false =>
          rw [hcv] at HC
          have Hs' : Hid (coverE (l.take (i + 1)) k q = best) := Lib.hid (by rw [Hs.out]; unfold coverStep; exact if_neg (fun h => by have h2 := h.2; unfold coversB at h2; rw [hcv] at h2; cases h2))
          clear hcv
          go_wp2_with (go_at_call 164; refine HC.out.mono ?_; rintro r w1 ⟨rfl, hx1⟩)
          go_roundw
          case rel => exact ⟨i + 1, by omega, by go_num, by rw [Hs'.out], X1.out.ext hx1⟩
          case measure => simp [intOf]; omega
      · have Hs' : Hid (coverE (l.take (i + 1)) k q = best) := Lib.hid (by rw [Hs.out]; unfold coverStep; exact if_neg (fun h => hq h.1))
        go_wp2
        go_roundw
        case rel => exact ⟨i + 1, by omega, by go_num, by rw [Hs'.out], X1.out⟩
        case measure => simp [intOf]; omega
    · obtain rfl : i = l.length := by omega
      rw [List.take_length]
      go_wp2
      go_ret
      exact ⟨rfl, HX.out⟩

set_option maxRecDepth 100000 in
set_option maxHeartbeats 4000000 in
theorem tomb_all (h : Tb w F T v l) (hl : l.length ≤ 1000000) : Calls Try.prog 123 #[.pointer (some ⟨T, 0, none⟩)] w (OwnedM spanC 92 w l) := by
  obtain ⟨V, c, rfl, -⟩ := h.own.form
  obtain ⟨r0, rf⟩ := cells1 h.blk
  have H0 := Lib.hid h
  clear h
  go_enter Try.func123, Try.ntmps123
  go_wp2
  go_loopw [3, 13] (fun s3 s13 wr => ∃ i : Nat, i ≤ l.length ∧ s13 = .int .i64 i ∧ Own spanC 92 wr w.heap.size (fun b => w.heap.size ≤ b) s3 (l.take i) ∧ Ext w wr) (fun _ s13 _ => l.length - (intOf s13).toNat)
  case atStart => exact ⟨0, Nat.zero_le _, rfl, Own.nil _ _ _ _ _, Out.refl _ _⟩
  case round =>
    obtain ⟨wo, rfl⟩ : ∃ x : World, x = wr := ⟨_, rfl⟩
    obtain ⟨i, hi, rfl, hown, hxi⟩ := hrel
    obtain ⟨A3, n3, c3, rfl⟩ := hown.form0
    have HX := Lib.hid hxi
    have HFl := Lib.hid hown.lt
    have Hown := Lib.hid hown
    have hsz := hxi.size
    clear hxi hown
    by_cases hlt : i < l.length
    · obtain ⟨R, rc, ux, uy, hv, hR, e0, e1, e2, hu, hv2⟩ := (H0.out.ext HX.out).own.spanAt i hlt
      injection hv with hV _ hc
      subst hV hc
      obtain ⟨U, N1, n1, rfl⟩ := hu.form0
      obtain ⟨V2, N2, n2, rfl⟩ := hv2.form0
      have x1 := Ext.alloc1 wo (.cells #[.slice U N1 n1, .slice V2 N2 n2, u64V l[i].seq] 92)
      obtain ⟨z0, z1, z2, -⟩ := cells3 (blk_new wo (.cells #[.slice U N1 n1, .slice V2 N2 n2, u64V l[i].seq] 92))
      have Hu := Lib.hid (hu.ext x1)
      have Hv := Lib.hid (hv2.ext x1)
      have X1 := Lib.hid (HX.out.ext x1)
      have Hown1 := Lib.hid (Hown.out.ext x1)
      clear hu hv2 x1
      go_wp2_with (first
        | (go_at_call 161; refine (tomb_one _ l[i] Hu.out Hv.out).mono ?_; rintro r w2 ⟨u2, x2, rfl, hx2, hu2, hv2⟩; obtain ⟨U2, N2', n2', rfl⟩ := hu2.form0; obtain ⟨X2, M2, m2, rfl⟩ := hv2.form0; have HX2 := Lib.hid hx2; have Hu2 := Lib.hid hu2; have Hv2 := Lib.hid hv2; have hs2 := hx2.size; simp only [World.size_alloc] at hs2; clear hx2 hu2 hv2)
        | (at_builtin; refine wpList_append_one rfl (.tmp 17) (.tmp 20) 82 rfl fits92 ((Hown1.out.ext HX2.out).ext (Ext.alloc1 _ _)) rfl (by (try simp only [World.size_alloc]); omega) (blk_new _ _) rfl l[i] ⟨_, _, rfl, (Hu2.out.alloc _).mono (fun b hb _ => ⟨by simp at hb; omega, fun e => by have := (HFl.out _ e).2; simp at hb; omega⟩) (.inl (by decide)), (Hv2.out.alloc _).mono (fun b hb _ => ⟨by simp at hb; omega, fun e => by have := (HFl.out _ e).2; simp at hb; omega⟩) (.inl (by decide))⟩ (by rw [List.length_take]; omega) (by decide) ?_; intro v' w3 g1 g2 g3; obtain ⟨A6, n6, c6, rfl⟩ := g1.form0; have G1 := Lib.hid g1; have G2 := Lib.hid g2; clear g1 g2 g3))
      go_roundw
      case rel => exact ⟨i + 1, by omega, by go_num, by rw [List.take_succ_eq_append_getElem hlt]; exact G1.out, ((X1.out.ext HX2.out).alloc _).then G2.out (fun b hb e => by have := (HFl.out _ e).1; omega)⟩
      case measure => simp [intOf]; omega
    · obtain rfl : i = l.length := by omega
      rw [List.take_length] at Hown
      go_wp2
      go_ret
      exact ⟨_, rfl, HX.out, Hown.out⟩
end Go.Proofs.Yteaanagljmcidaa
