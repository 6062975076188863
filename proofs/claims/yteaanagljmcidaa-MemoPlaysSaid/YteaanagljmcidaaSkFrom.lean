/- skip: From, Before. -/
import Derived.Test.YteaanagljmcidaaSkOps
namespace Go.Proofs.Yteaanagljmcidaa
open Go.RowKit

attribute [local go_sem ↓] Go.wp_at_zero Go.wp_at_succ

def entAt (ts : List Tw) (i : Nat) : Ent := ((ts[i]?).map fun t => t.e).getD zeroE
theorem entAt_get {ts : List Tw} {i : Nat} (hi : i < ts.length) : entAt ts i = ts[i].e := by simp [entAt, hi]
theorem keyAt_ent {ts : List Tw} {i : Nat} (hi : i < ts.length) : keyAt ts i = (entAt ts i).key := by rw [keyAt_get hi, entAt_get hi]

/-- The entries in order. -/
def ents (ts : List Tw) (ord : List Nat) : List Ent := ord.map (entAt ts)

/-- The first that isn't ahead; the last that is. -/
def fromE (l : List Ent) (k : Key) : Option Ent := l.find? fun e => !decide (kcmp e.key k < 0)
def beforeE (l : List Ent) (k : Key) : Option Ent := (l.filter fun e => decide (kcmp e.key k < 0)).getLast?

variable {ts : List Tw} {ord : List Nat} {k : Key}

theorem Good.ent (hg : Good ts ord) {i : Nat} (hi : i ∈ ord) : keyAt ts i = (entAt ts i).key := keyAt_ent ((hg.mem i).1 hi).2

theorem good_chain0 (hg : Good ts ord) {l : List Nat} (h : ∀ i ∈ l, i ∈ ord) : chain ts l 0 = l := List.filter_eq_self.2 fun i hi => by
  have := (hg.tall i (h i hi)).1
  rw [decide_eq_true_iff]; omega

theorem filter_map_ents (hg : Good ts ord) (p : Key → Bool) : ∀ l : List Nat, (∀ i ∈ l, i ∈ ord) → (l.map (entAt ts)).filter (fun e => p e.key) = (l.filter fun i => p (keyAt ts i)).map (entAt ts)
  | [], _ => rfl
  | a :: l, h => by
    have ih := filter_map_ents hg p l fun i hi => h i (List.mem_cons_of_mem _ hi)
    have e := hg.ent (h a List.mem_cons_self)
    rw [List.map_cons, List.filter_cons, List.filter_cons, ih, e]
    split <;> simp

theorem good_before (hg : Good ts ord) (k : Key) : (if pathAt ts ord k 0 = 0 then none else some (entAt ts (pathAt ts ord k 0))) = beforeE (ents ts ord) k := by
  unfold beforeE ents
  rw [filter_map_ents hg (fun x => decide (kcmp x k < 0)) ord (fun _ h => h)]
  show _ = ((ahead ts ord k).map (entAt ts)).getLast?
  unfold pathAt
  have hm : ∀ i ∈ ahead ts ord k, i ∈ ord := fun i hi => (mem_ahead.1 hi).1
  rw [good_chain0 hg hm]
  rcases List.eq_nil_or_concat (ahead ts ord k) with h | ⟨l, a, h⟩
  · rw [h]; simp
  · have ha : a ∈ ord := hm a (by rw [h]; simp)
    have h0 := ((hg.mem a).1 ha).1
    rw [h]
    simp
    omega

theorem good_from (hg : Good ts ord) (k : Key) : (if nxt ts 0 (pathAt ts ord k 0) = 0 then none else some (entAt ts (nxt ts 0 (pathAt ts ord k 0)))) = fromE (ents ts ord) k := by
  have hw : OnWay ts ord k 0 (pathAt ts ord k 0) [] := ⟨_, (List.append_nil _).symm, rfl⟩
  have hn := hw.next hg (by omega)
  have hm : ∀ i ∈ behind ts ord k, i ∈ ord := fun i hi => (mem_behind.1 hi).1
  rw [good_chain0 hg hm, List.nil_append] at hn
  rw [hn]
  unfold fromE ents
  rw [← List.head?_filter, filter_map_ents hg (fun x => !decide (kcmp x k < 0)) ord (fun _ h => h)]
  show _ = ((behind ts ord k).map (entAt ts)).head?
  cases h : behind ts ord k with
  | nil => simp
  | cons a l =>
    have ha : a ∈ ord := hm a (by rw [h]; simp)
    have h0 := ((hg.mem a).1 ha).1
    simp
    omega

theorem OnWay.end_ (ts : List Tw) (ord : List Nat) (k : Key) (r : Nat) : OnWay ts ord k r (pathAt ts ord k r) [] := ⟨_, (List.append_nil _).symm, rfl⟩

theorem sk_at' (w : World) {Foot : Nat → Prop} {L : Nat} {v : Value} {size : Int} (h : Sk w Foot L v ts size) (n : Nat) (hn : n < ts.length) (o : Option Ent) (ho : (if n = 0 then none else some (entAt ts n)) = o) :
    Calls Try.prog 101 #[.pointer (some ⟨L, 0, none⟩), .int .i64 n] w (Told w o) := by
  rw [← ho, entAt_get hn]; exact sk_at w h n hn

theorem idx0 (x0 x1 x2 x3 x4 x5 x6 x7 : Nat) (w : World) : (Instr.index 148 (.agg #[nV x0, nV x1, nV x2, nV x3, nV x4, nV x5, nV x6, nV x7]) (.int .i64 0)).run Try.prog w = .ok (nV x0) w := by kernel_rfl

theorem path_lit (f : Nat → Nat) : nxV ((List.range 8).map f) = #[nV (f 0), nV (f 1), nV (f 2), nV (f 3), nV (f 4), nV (f 5), nV (f 6), nV (f 7)] := rfl

set_option maxRecDepth 100000 in
set_option maxHeartbeats 1000000 in
theorem sk_before (w : World) {Foot F : Nat → Prop} {L : Nat} {v : Value} {size : Int} (h : Sk w Foot L v ts size) (hg : Good ts ord) (hF : ∀ b, Foot b → b < w.heap.size) (hF' : ∀ b, F b → b < w.heap.size) {u : Value} (hu : Bs w F u k.user) :
    Calls Try.prog 37 #[.pointer (some ⟨L, 0, none⟩), .agg #[u, u64V k.seq, byteV k.kind]] w (Told w (beforeE (ents ts ord) k)) := by
  obtain ⟨U, N, c, rfl⟩ := hu.form0
  have hx : Ext w ((w.alloc (.cells #[.slice U N c, u64V k.seq, byteV k.kind] 30)).alloc (.cells #[.slice none 0 0, .int .u64 0, .int .u8 0, .slice none 0 0] 32)) := ((Out.refl _ w).alloc _).alloc _
  have h1 := h.ext hx
  have hu1 := hu.ext hx
  have hb := good_before hg k
  obtain ⟨hv1, -⟩ := (OnWay.end_ ts ord k 0).valid hg (by omega)
  have hp := path_lit (pathAt ts ord k)
  have HG := Lib.hid hg
  have HS := Lib.hid h1
  have HU := Lib.hid hu1
  have HX := Lib.hid hx
  have HB := Lib.hid hb
  have HP := Lib.hid hp
  have HF1 : Hid (∀ b, Foot b → b < ((w.alloc (.cells #[.slice U N c, u64V k.seq, byteV k.kind] 30)).alloc (.cells #[.slice none 0 0, .int .u64 0, .int .u8 0, .slice none 0 0] 32)).heap.size) := Lib.hid fun b hb => by have := hF b hb; simp; omega
  have HF2 : Hid (∀ b, F b → b < ((w.alloc (.cells #[.slice U N c, u64V k.seq, byteV k.kind] 30)).alloc (.cells #[.slice none 0 0, .int .u64 0, .int .u8 0, .slice none 0 0] 32)).heap.size) := Lib.hid fun b hb => by have := hF' b hb; simp; omega
  have Z := Lib.hid (blk_at (w := w.alloc (.cells #[.slice U N c, u64V k.seq, byteV k.kind] 30)) (o := .cells #[.slice none 0 0, .int .u64 0, .int .u8 0, .slice none 0 0] 32) (n := w.heap.size + 1) (by simp))
  clear h hg hF hF' hu hx h1 hu1 hb hp
  have hi := idx0
  go_enter Try.func37, Try.ntmps37
  go_wp2_with (first | (go_at_call 97; refine (sk_path _ HS.out HG.out HF1.out HF2.out HU.out).mono ?_; rw [HP.out]; rintro e w1 ⟨rfl, hx1⟩; generalize hpa : pathAt ts ord k 0 = pa at *; have Hpa := Lib.hid hpa; clear hpa) | (go_at_call 101; refine (sk_at' _ (HS.out.ext hx1) pa hv1 _ HB.out).mono ?_; rintro e w2 ⟨u2, v2, rfl, hx2, hb1, hb2⟩; generalize hE : (beforeE (ents ts ord) k).getD zeroE = E at *; have HE := Lib.hid hE; clear hE; obtain ⟨A1, k1, m1, rfl⟩ := hb1.form0; obtain ⟨A2, k2, m2, rfl⟩ := hb2.form0; obtain ⟨z0, z1, z2, z3, zf⟩ := cells4 (hx2.blk (hx1.blk Z.out (fun f => f)) (fun f => f))))
  obtain ⟨r0, r1, r2, r3, -⟩ := cells4 (blk_set4 (hx2.blk (hx1.blk Z.out (fun f => f)) (fun f => f)) (.slice A1 k1 m1) (u64V E.key.seq) (byteV E.key.kind) (.slice A2 k2 m2))
  have h3 := hx1.size
  simp only [World.size_alloc] at h3
  have ho := out_set4 (S := fun k => k = w.heap.size + 1) (Out.refl _ w2) (g := w.heap.size + 1) (fun _ => rfl) (.slice A1 k1 m1) (u64V E.key.seq) (byteV E.key.kind) (.slice A2 k2 m2)
  have o1 := hb1.out ho (fun b _ hb => by omega)
  have o2 := hb2.out ho (fun b _ hb => by omega)
  refine bodyPost_ret (v := .tuple #[.agg #[.slice A1 k1 m1, u64V E.key.seq, byteV E.key.kind, .slice A2 k2 m2], .bool (beforeE (ents ts ord) k).isSome]) (by simp [results, Try.results37, go_sem, r0, r1, r2, r3]) rfl ?_
  unfold Told
  rw [HE.out]
  exact ⟨_, _, rfl, out_set4 ((HX.out.ext hx1).ext hx2) (by omega) _ _ _ _, o1.mono (fun b hb _ => by omega) (.inl (by decide)), o2.mono (fun b hb _ => by omega) (.inl (by decide))⟩

set_option maxRecDepth 100000 in
set_option maxHeartbeats 1000000 in
theorem sk_from (w : World) {Foot F : Nat → Prop} {L : Nat} {v : Value} {size : Int} (h : Sk w Foot L v ts size) (hg : Good ts ord) (hF : ∀ b, Foot b → b < w.heap.size) (hF' : ∀ b, F b → b < w.heap.size) {u : Value} (hu : Bs w F u k.user) :
    Calls Try.prog 35 #[.pointer (some ⟨L, 0, none⟩), .agg #[u, u64V k.seq, byteV k.kind]] w (Told w (fromE (ents ts ord) k)) := by
  obtain ⟨U, N, c, rfl⟩ := hu.form0
  obtain ⟨R, cap, rfl⟩ := h.arena
  have hsm := h.small
  have hx : Ext w ((w.alloc (.cells #[.slice U N c, u64V k.seq, byteV k.kind] 30)).alloc (.cells #[.slice none 0 0, .int .u64 0, .int .u8 0, .slice none 0 0] 32)) := ((Out.refl _ w).alloc _).alloc _
  have h1 := h.ext hx
  have hu1 := (hu.ext hx).drew
  have hb := good_from hg k
  have hw := OnWay.end_ ts ord k 0
  obtain ⟨hv1, hv2⟩ := hw.valid hg (by omega)
  have hv3 := hg.nxt_lt (by omega) hw
  have hp := path_lit (pathAt ts ord k)
  have HG := Lib.hid hg
  have HS : Hid (Sk ((w.alloc (.cells #[.slice U N c, u64V k.seq, byteV k.kind] 30)).alloc (.cells #[.slice none 0 0, .int .u64 0, .int .u8 0, .slice none 0 0] 32)).drew Foot L (.slice (some ⟨R, 0, none⟩) ts.length cap) ts size) := Lib.hid (h1.ext (Out.refl _ _).drew)
  have HU := Lib.hid hu1
  have HX := Lib.hid hx
  have HP := Lib.hid hp
  have HF1 : Hid (∀ b, Foot b → b < ((w.alloc (.cells #[.slice U N c, u64V k.seq, byteV k.kind] 30)).alloc (.cells #[.slice none 0 0, .int .u64 0, .int .u8 0, .slice none 0 0] 32)).drew.heap.size) := Lib.hid fun b hb => by have := hF b hb; simp; omega
  have HF2 : Hid (∀ b, F b → b < ((w.alloc (.cells #[.slice U N c, u64V k.seq, byteV k.kind] 30)).alloc (.cells #[.slice none 0 0, .int .u64 0, .int .u8 0, .slice none 0 0] 32)).drew.heap.size) := Lib.hid fun b hb => by have := hF' b hb; simp; omega
  have Z := Lib.hid (blk_at (w := w.alloc (.cells #[.slice U N c, u64V k.seq, byteV k.kind] 30)) (o := .cells #[.slice none 0 0, .int .u64 0, .int .u8 0, .slice none 0 0] 32) (n := w.heap.size + 1) (by simp))
  obtain ⟨z0, z1, z2, -⟩ := cells3 (blk_alloc (blk_new w (.cells #[.slice U N c, u64V k.seq, byteV k.kind] 30)) (.cells #[.slice none 0 0, .int .u64 0, .int .u8 0, .slice none 0 0] 32))
  obtain ⟨l0, l1, -⟩ := h1.cells
  obtain ⟨x, y, a0, a1, a2, a3, a4, -, -⟩ := h1.tower (pathAt ts ord k 0) hv1
  rw [hgt_get hv1] at hv2
  have n0 := h1.nxCell (pathAt ts ord k 0) hv1 0 hv2
  rw [← nxt_get hv1 hv2] at n0
  have lL : L < w.heap.size := blk_lt h.head
  have lR : R < w.heap.size := (h.own.lt R rfl).2
  have lT : ts[pathAt ts ord k 0].T < w.heap.size := blk_lt (h.next _ (List.getElem_mem hv1)).2.2
  generalize hpa : pathAt ts ord k 0 = pa at *
  have Hpa := Lib.hid hpa
  generalize nxt ts 0 pa = n at *
  have HB := Lib.hid hb
  clear h hg hF hF' hu hx h1 hu1 hb hp hpa hw a0 a1 a2 a3 l1
  have hi := idx0
  go_enter Try.func35, Try.ntmps35
  go_wp2
  go_region_held3 (fun w' => w'.cell? ⟨L, 0, none⟩ = some (.slice (some ⟨R, 0, none⟩) ts.length cap) ∧ w'.cell? ⟨w.heap.size, 0, none⟩ = some (.slice U N c) ∧ w'.cell? ⟨w.heap.size, 1, none⟩ = some (u64V k.seq) ∧ w'.cell? ⟨w.heap.size, 2, none⟩ = some (byteV k.kind) ∧ w'.cell? ⟨R, pa * 5 + 4, none⟩ = some (.slice (some ⟨ts[pa].T, 0, none⟩) ts[pa].nx.length ts[pa].nx.length) ∧ w'.cell? ⟨ts[pa].T, 0, none⟩ = some (.int .i64 n)) (first | (exact ⟨((out_set4 (S := fun k => k = w.heap.size + 1) (g := w.heap.size + 1) (Out.refl _ w2) (fun _ => rfl) (.slice A1 k1 m1) (u64V E.key.seq) (byteV E.key.kind) (.slice A2 k2 m2)).cell (hx2.cell (hx1.cell l0 (fun f => f)) (fun f => f)) (by simp <;> omega)), ((out_set4 (S := fun k => k = w.heap.size + 1) (g := w.heap.size + 1) (Out.refl _ w2) (fun _ => rfl) (.slice A1 k1 m1) (u64V E.key.seq) (byteV E.key.kind) (.slice A2 k2 m2)).cell (hx2.cell (hx1.cell z0 (fun f => f)) (fun f => f)) (by simp <;> omega)), ((out_set4 (S := fun k => k = w.heap.size + 1) (g := w.heap.size + 1) (Out.refl _ w2) (fun _ => rfl) (.slice A1 k1 m1) (u64V E.key.seq) (byteV E.key.kind) (.slice A2 k2 m2)).cell (hx2.cell (hx1.cell z1 (fun f => f)) (fun f => f)) (by simp <;> omega)), ((out_set4 (S := fun k => k = w.heap.size + 1) (g := w.heap.size + 1) (Out.refl _ w2) (fun _ => rfl) (.slice A1 k1 m1) (u64V E.key.seq) (byteV E.key.kind) (.slice A2 k2 m2)).cell (hx2.cell (hx1.cell z2 (fun f => f)) (fun f => f)) (by simp <;> omega)), ((out_set4 (S := fun k => k = w.heap.size + 1) (g := w.heap.size + 1) (Out.refl _ w2) (fun _ => rfl) (.slice A1 k1 m1) (u64V E.key.seq) (byteV E.key.kind) (.slice A2 k2 m2)).cell (hx2.cell (hx1.cell a4 (fun f => f)) (fun f => f)) (by simp <;> omega)), ((out_set4 (S := fun k => k = w.heap.size + 1) (g := w.heap.size + 1) (Out.refl _ w2) (fun _ => rfl) (.slice A1 k1 m1) (u64V E.key.seq) (byteV E.key.kind) (.slice A2 k2 m2)).cell (hx2.cell (hx1.cell n0 (fun f => f)) (fun f => f)) (by simp <;> omega))⟩) | (exact ⟨(hx2.cell (hx1.cell l0 (fun f => f)) (fun f => f)), (hx2.cell (hx1.cell z0 (fun f => f)) (fun f => f)), (hx2.cell (hx1.cell z1 (fun f => f)) (fun f => f)), (hx2.cell (hx1.cell z2 (fun f => f)) (fun f => f)), (hx2.cell (hx1.cell a4 (fun f => f)) (fun f => f)), (hx2.cell (hx1.cell n0 (fun f => f)) (fun f => f))⟩) | (exact ⟨hx1.cell l0 (fun f => f), hx1.cell z0 (fun f => f), hx1.cell z1 (fun f => f), hx1.cell z2 (fun f => f), hx1.cell a4 (fun f => f), hx1.cell n0 (fun f => f)⟩) | go_keep)
    (first | (go_at_call 97; refine (sk_path _ HS.out HG.out HF1.out HF2.out HU.out).mono ?_; rw [HP.out]; rintro e w1 ⟨rfl, hx1⟩) | (go_at_call 101; refine (sk_at' _ (HS.out.ext hx1) n hv3 _ HB.out).mono ?_; rintro e w2 ⟨u2, v2, rfl, hx2, hb1, hb2⟩; generalize hE : (fromE (ents ts ord) k).getD zeroE = E at *; have HE := Lib.hid hE; clear hE; obtain ⟨A1, k1, m1, rfl⟩ := hb1.form0; obtain ⟨A2, k2, m2, rfl⟩ := hb2.form0; obtain ⟨t0, t1, t2, t3, tf⟩ := cells4 (hx2.blk (hx1.blk Z.out (fun f => f)) (fun f => f))))
  go_wp2
  obtain ⟨r0, r1, r2, r3, -⟩ := cells4 (blk_set4 (hx2.blk (hx1.blk Z.out (fun f => f)) (fun f => f)) (.slice A1 k1 m1) (u64V E.key.seq) (byteV E.key.kind) (.slice A2 k2 m2))
  have h3 := hx1.size
  simp only [World.size_alloc, World.size_drew] at h3
  have ho := out_set4 (S := fun k => k = w.heap.size + 1) (Out.refl _ w2) (g := w.heap.size + 1) (fun _ => rfl) (.slice A1 k1 m1) (u64V E.key.seq) (byteV E.key.kind) (.slice A2 k2 m2)
  have o1 := hb1.out ho (fun b _ hb => by omega)
  have o2 := hb2.out ho (fun b _ hb => by omega)
  refine bodyPost_ret (v := .tuple #[.agg #[.slice A1 k1 m1, u64V E.key.seq, byteV E.key.kind, .slice A2 k2 m2], .bool (fromE (ents ts ord) k).isSome]) (by simp [results, Try.results35, go_sem, r0, r1, r2, r3]) rfl ?_
  unfold Told
  rw [HE.out]
  exact ⟨_, _, rfl, out_set4 ((HX.out.drew.ext hx1).ext hx2) (by omega) _ _ _ _, o1.mono (fun b hb _ => by omega) (.inl (by decide)), o2.mono (fun b hb _ => by omega) (.inl (by decide))⟩
end Go.Proofs.Yteaanagljmcidaa
