/- law08, SkipPlays: what a list tells; the puts go into both lists, one by one. -/
import Derived.Test.YteaanagljmcidaaRef8C
import Derived.Test.YteaanagljmcidaaNilL
import Derived.Test.YteaanagljmcidaaLawIns
import Derived.Test.YteaanagljmcidaaPoke
import Derived.Test.YteaanagljmcidaaSame
namespace Go.Proofs.Yteaanagljmcidaa
open Go.RowKit

/-- A row, whatever the height asked. -/
def rowI (m : List (Ent × Nat)) (h : Int) : List Key := if 1 ≤ h then (m.filter fun x => decide (h ≤ (x.2 : Int))).map (·.1.key) else []
theorem rowI_nil (h : Int) : rowI [] h = [] := by unfold rowI; split <;> rfl
theorem rowI_le (m : List (Ent × Nat)) (h : Int) : (rowI m h).length ≤ m.length := by
  unfold rowI; split
  · rw [List.length_map]; exact List.length_filter_le _ _
  · simp
theorem rowI_succ {m : List (Ent × Nat)} {i : Nat} (hi : i < m.length) (h : Int) : rowI (m.take (i + 1)) h = rowI (m.take i) h ++ (if 1 ≤ h ∧ h ≤ (m[i].2 : Int) then [m[i].1.key] else []) := by
  unfold rowI
  rw [List.take_succ_eq_append_getElem hi]
  by_cases h1 : 1 ≤ h
  · rw [if_pos h1, if_pos h1, List.filter_append, List.map_append]
    congr 1
    by_cases h2 : h ≤ (m[i].2 : Int) <;> simp [h1, h2]
  · simp [h1]
theorem rowI_out {m : List (Ent × Nat)} (hm : OkM m) {h : Int} (hh : h < 1 ∨ 8 < h) : rowI m h = [] := by
  unfold rowI
  split
  · rw [List.filter_eq_nil_iff.2 fun x hx => by have := (hm x hx).2.2.2; simp; omega]; rfl
  · rfl
theorem rowI_in (m : List (Ent × Nat)) {r : Nat} : rowI m ((r : Int) + 1) = rowM m (r + 1) := by
  unfold rowI rowM
  rw [if_pos (by omega)]
  congr 1
  apply List.filter_congr
  intro x _
  rw [Bool.eq_iff_iff]; simp only [decide_eq_true_eq]; omega

/-- What a list (or none) tells, while I stands. -/
structure Tells (sv : Value) (I : World → Prop) (m : List (Ent × Nat)) : Prop where
  keep : ∀ {a b}, I a → Ext a b → I b
  all : ∀ w, I w → Calls Try.prog 33 #[sv] w (Owned entC 32 w (m.map (·.1)))
  len : ∀ w, I w → Calls Try.prog 30 #[sv] w fun e w' => e = .returned (.int .i64 m.length) ∧ w = w'
  size : ∀ w, I w → Calls Try.prog 34 #[sv] w fun e w' => e = .returned (.int .i64 (sizeM m)) ∧ w = w'
  row : ∀ w (h : Int), I w → Calls Try.prog 29 #[sv, .int .i64 h] w (Owned keyC 30 w (rowI m h))
  told : ∀ (k : Key) w (F : Nat → Prop) u, I w → (∀ b, F b → b < w.heap.size) → Bs w F u k.user → Calls Try.prog 35 #[sv, .agg #[u, u64V k.seq, byteV k.kind]] w (Told w (fromE (m.map (·.1)) k))
  ahead : ∀ (k : Key) w (F : Nat → Prop) u, I w → (∀ b, F b → b < w.heap.size) → Bs w F u k.user → Calls Try.prog 37 #[sv, .agg #[u, u64V k.seq, byteV k.kind]] w (Told w (beforeE (m.map (·.1)) k))

theorem tells_sk {Foot : Nat → Prop} {L : Nat} {m : List (Ent × Nat)} (hm : OkM m) : Tells (.pointer (some ⟨L, 0, none⟩)) (fun w => SkM w Foot L m) m where
  keep := fun h hx => h.ext hx
  all := fun w h => sk_allM h
  len := fun w h => sk_lenM w h
  size := fun w h => sk_sizeM w h
  row := fun w h hs => by
    by_cases hh : h < 1 ∨ 8 < h
    · rw [rowI_out hm hh]
      refine (sk_rowOut w _ h hh).mono ?_
      rintro r w' ⟨rfl, rfl⟩
      exact ⟨_, rfl, Out.refl _ _, Own.nil _ _ _ _ _⟩
    · obtain ⟨r, rfl⟩ : ∃ r : Nat, h = (r : Int) + 1 := ⟨(h - 1).toNat, by omega⟩
      rw [rowI_in]
      exact sk_rowM hs r (by omega)
  told := fun k w F u h hF hu => sk_fromM w h hF hu
  ahead := fun k w F u h hF hu => sk_beforeM w h hF hu
theorem tells_nil : Tells (.pointer none) (fun _ => True) [] where
  keep := fun _ _ => trivial
  all := fun w _ => nil_all w
  len := fun w _ => nil_len w
  size := fun w _ => nil_size w
  row := fun w h _ => by rw [rowI_nil]; exact nil_row w h
  told := fun k w F u _ _ _ => nil_from w
  ahead := fun k w F u _ _ _ => nil_before w

/-- What stays behind the puts. -/
structure TR (w wr : World) (I : World → Prop) (FR : Nat → Prop) (R : Nat) (v z : Value) (m : List (Ent × Nat)) : Prop where
  ext : Ext w wr
  inv : I wr
  rf : RefE wr FR R v z (m.map (·.1)) (m.map fun x => (x.2 : Int))
  lt : ∀ b, FR b → b < wr.heap.size
theorem TR.step {w wr w1 : World} {I : World → Prop} {FR : Nat → Prop} {R : Nat} {v z : Value} {m : List (Ent × Nat)} {sv : Value} (h : TR w wr I FR R v z m) (ht : Tells sv I m) (hx : Ext wr w1) : TR w w1 I FR R v z m :=
  ⟨h.ext.ext hx, ht.keep h.inv hx, h.rf.ext hx, fun b hb => Nat.lt_of_lt_of_le (h.lt b hb) hx.size⟩
theorem smallE_of {m : List (Ent × Nat)} (hm : OkM m) : SmallE (m.map (·.1)) := fun e he => by
  obtain ⟨x, hx, rfl⟩ := List.mem_map.1 he
  obtain ⟨h1, h2, _⟩ := hm x hx
  have := icheck_len h1
  omega
theorem TR.at_ {w wr : World} {I : World → Prop} {FR : Nat → Prop} {R : Nat} {A Z : Option Addr} {a b n q : Nat} {m : List (Ent × Nat)} (h : TR w wr I FR R (.slice A a n) (.slice Z b q) m) (i : Nat) (hi : i < m.length) :
    ∃ b off u v, A = some ⟨b, off, none⟩ ∧ wr.cell? ⟨b, off + i * 4, none⟩ = some u ∧ wr.cell? ⟨b, off + i * 4 + 1, none⟩ = some (u64V m[i].1.key.seq) ∧ wr.cell? ⟨b, off + i * 4 + 2, none⟩ = some (byteV m[i].1.key.kind) ∧
      wr.cell? ⟨b, off + i * 4 + 3, none⟩ = some v ∧ Bs wr FR u m[i].1.key.user ∧ Bs wr FR v m[i].1.value := by
  obtain ⟨b, off, u, v, h1, h2, h3, h4, h5, h6, h7, h8⟩ := h.rf.ents.ent i (by rw [List.length_map]; exact hi)
  rw [List.getElem_map] at *
  exact ⟨b, off, u, v, h1, h3, h4, h5, h6, h7.mono (fun _ hb _ => hb.1) (.inl (by decide)), h8.mono (fun _ hb _ => hb.1) (.inl (by decide))⟩
theorem TR.high {w wr : World} {I : World → Prop} {FR : Nat → Prop} {R : Nat} {A Z : Option Addr} {a b n q : Nat} {m : List (Ent × Nat)} (h : TR w wr I FR R (.slice A a n) (.slice Z b q) m) (i : Nat) (hi : i < m.length) :
    ∃ b off, Z = some ⟨b, off, none⟩ ∧ wr.cell? ⟨b, off + i, none⟩ = some (.int .i64 (m[i].2 : Int)) := by
  obtain ⟨b, off, cs, h1, h2, hat, hr⟩ := Sl.get h.rf.hts i (by rw [List.length_map]; exact hi)
  have hr' : cs = [.int .i64 ((m.map fun x => (x.2 : Int))[i]'(by rw [List.length_map]; exact hi))] := hr.1
  rw [List.getElem_map] at hr'
  subst hr'
  have := hat.cell 0 _ rfl
  exact ⟨b, off, h1, by simpa [intC] using this⟩
theorem r3_sameRefl {w : World} {F G : Nat → Prop} {u v : Value} (a : Key) (hu : Bs w F u a.user) (hv : Bs w G v a.user) :
    Calls Try.prog 31 #[.agg #[u, u64V a.seq, byteV a.kind], .agg #[v, u64V a.seq, byteV a.kind]] w fun e w' => e = .returned (.bool true) ∧ Ext w w' := by
  have h := r3_same w a a hu hv
  rwa [decide_eq_true rfl] at h
theorem r3_sameEntRefl {w : World} {F F' G G' : Nat → Prop} {u u' v v' : Value} (a : Ent) (hu : Bs w F u a.key.user) (hv : Bs w G v a.key.user) (hu' : Bs w F' u' a.value) (hv' : Bs w G' v' a.value) :
    Calls Try.prog 36 #[.agg #[u, u64V a.key.seq, byteV a.key.kind, u'], .agg #[v, u64V a.key.seq, byteV a.key.kind, v']] w fun e w' => e = .returned (.bool true) ∧ Ext w w' := by
  have h := r3_sameEntry w a a hu hv hu' hv'
  rwa [decide_eq_true rfl] at h
theorem r3_sameSelf {w : World} {F G : Nat → Prop} {x y : Value} {a : List Ent} (hx : Sl entC w F x a) (hy : Sl entC w G y a) : Calls Try.prog 32 #[x, y] w fun e w' => e = .returned (.bool true) ∧ Ext w w' := by
  have h := r3_sameEntries w a a hx hy
  rwa [decide_eq_true rfl] at h
theorem r8_sizeM {w : World} {F : Nat → Prop} {x : Value} {m : List (Ent × Nat)} (hx : Sl entC w F x (m.map (·.1))) (hm : OkM m) (hl : m.length ≤ 60) :
    Calls Try.prog 41 #[x] w fun e w' => e = .returned (.int .i64 (sizeM m)) ∧ Ext w w' := by
  rw [← sizeL_fst]
  exact r8_size w _ hx (smallE_of hm) (by rw [List.length_map]; omega)

/-- k puts have gone into both. -/
structure PlR (w0 wr : World) (c d L R : Nat) (fl : List PutE) (v : Value) (k : Nat) : Prop where
  few : fl.length ≤ 60
  ext : Ext w0 wr
  sl : Sl putC wr (fun b => c ≤ b ∧ b < d) v fl
  hd : d ≤ wr.heap.size
  two : ∃ FS FR : Nat → Prop, (∀ b, FS b → w0.heap.size ≤ b ∧ b < wr.heap.size ∧ ¬ FR b ∧ ¬ (c ≤ b ∧ b < d)) ∧ (∀ b, FR b → w0.heap.size ≤ b ∧ b < wr.heap.size ∧ ¬ (c ≤ b ∧ b < d)) ∧
    SkM wr FS L (insAll [] (fl.take k)) ∧ RefM wr FR R (insAll [] (fl.take k))

theorem PlR.start {w w1 w2 w3 : World} {L : Nat} {l : List PutE} {v : Value} (hx1 : Ext w w1) (hx2 : Ext w1 w2) (hs : SkM w2 (fun b => w1.heap.size ≤ b) L []) (hx3 : Ext (w2.alloc (.cells #[.slice none 0 0, .slice none 0 0] 56)) w3)
    (hsl : Sl putC w3 (fun b => (w2.alloc (.cells #[.slice none 0 0, .slice none 0 0] 56)).heap.size ≤ b) v (fewP l)) : PlR w w3 (w2.heap.size + 1) w3.heap.size L w2.heap.size (fewP l) v 0 := by
  have e1 := hx1.size
  have e2 := hx2.size
  have e3 := hx3.size
  simp only [World.size_alloc] at e3 hsl
  refine ⟨by unfold fewP; rw [List.length_map, List.length_take]; omega, (((hx1.ext hx2).alloc _).ext hx3), hsl.below (by decide), Nat.le_refl _, fun b => w1.heap.size ≤ b ∧ b < w2.heap.size, fun b => b = w2.heap.size, fun b hb => ⟨by omega, by omega, by omega, by omega⟩, fun b hb => ⟨by omega, by omega, by omega⟩, ?_, ?_⟩
  · exact (((hs.mono (G := fun b => w1.heap.size ≤ b ∧ b < w2.heap.size) fun b hb h1 => ⟨h1, hb⟩).ext (Ext.alloc1 _ _)).ext hx3)
  · exact (RefM.ext ⟨_, _, blk_new w2 _, rfl, Sl.nil _ _ _, Sl.nil _ _ _, rfl⟩ hx3)

theorem insAll_few {fl : List PutE} (h : fl.length ≤ 60) (k : Nat) : (insAll [] (fl.take k)).length < 90000 := by
  have h1 := insAll_length (fl.take k) []
  rw [List.length_take] at h1
  simp at h1
  omega

theorem PlR.next {w0 wr w3 w4 w5 w6 wq : World} {c d L R : Nat} {fl : List PutE} {v : Value} {k : Nat} (h : PlR w0 wr c d L R fl v k) (hk : k < fl.length) {FS FR : Nat → Prop} {lo hi : Nat}
    (hS : ∀ b, FS b → w0.heap.size ≤ b ∧ b < wr.heap.size ∧ ¬ FR b ∧ ¬ (c ≤ b ∧ b < d)) (hR : ∀ b, FR b → w0.heap.size ≤ b ∧ b < wr.heap.size ∧ ¬ (c ≤ b ∧ b < d))
    (h3 : Ext wr w3) (h4 : Out FS w3 w4) (s4 : SkM w4 (fun b => FS b ∨ w3.heap.size ≤ b) L (insN (insAll [] (fl.take k)) fl[k].e fl[k].h))
    (h5 : Out (fun b => b = R) w4 w5) (hRR : FR R) (s5 : RefM w5 (fun b => FR b ∨ w4.heap.size ≤ b) R (insN (insAll [] (fl.take k)) fl[k].e fl[k].h))
    (h6 : Ext w5 w6) (h7 : Out (fun b => lo ≤ b ∧ b < hi) w6 wq) (hlo : wr.heap.size ≤ lo) (hhi : hi ≤ w3.heap.size) : PlR w0 wq c d L R fl v (k + 1) := by
  have e0 := h.ext.size
  have e3 := h3.size
  have e4 := h4.size
  have e5 := h5.size
  have e6 := h6.size
  have e7 := h7.size
  have hd := h.hd
  have hall : Out (fun b => FS b ∨ b = R ∨ (lo ≤ b ∧ b < hi)) w3 wq := by
    refine ((((h4.mono fun _ _ => .inl).trans (h5.mono fun _ _ e => .inr (.inl e))).ext h6).trans (h7.mono fun _ _ e => .inr (.inr e)))
  have hR0 := hR R hRR
  refine ⟨h.few, (h.ext.ext h3).then hall (fun i hi hc => ?_), (h.sl.ext h3).out hall (fun b _ hb hc => ?_), by omega, fun b => FS b ∨ (w3.heap.size ≤ b ∧ b < w4.heap.size), fun b => FR b ∨ (w4.heap.size ≤ b ∧ b < w5.heap.size), ?_, ?_, ?_, ?_⟩
  · rcases hc with hc | rfl | hc
    · have := (hS i hc).1; omega
    · have := hR0.1; omega
    · omega
  · rcases hc with hc | rfl | hc
    · exact (hS b hc).2.2.2 hb
    · exact hR0.2.2 hb
    · omega
  · rintro b (hb | hb)
    · obtain ⟨q1, q2, q3, q4⟩ := hS b hb
      exact ⟨q1, by omega, fun hc => hc.elim q3 (fun hc => by omega), q4⟩
    · exact ⟨by omega, by omega, fun hc => hc.elim (fun hc => by have := (hR b hc).2.1; omega) (fun hc => by omega), by omega⟩
  · rintro b (hb | hb)
    · obtain ⟨q1, q2, q3⟩ := hR b hb
      exact ⟨q1, by omega, q3⟩
    · exact ⟨by omega, by omega, by omega⟩
  · rw [insAll_take_succ [] fl k hk]
    have s4' : SkM w4 (fun b => FS b ∨ (w3.heap.size ≤ b ∧ b < w4.heap.size)) L _ := s4.mono fun b hb hc => hc.imp id fun hc => ⟨hc, hb⟩
    refine ((s4'.frame h5 fun b _ hb e => ?_).ext h6).frame h7 fun b _ hb hc => ?_
    · subst e
      rcases hb with hb | hb
      · exact (hS b hb).2.2.1 hRR
      · omega
    · rcases hb with hb | hb
      · have := (hS b hb).2.1; omega
      · omega
  · rw [insAll_take_succ [] fl k hk]
    have s5' : RefM w5 (fun b => FR b ∨ (w4.heap.size ≤ b ∧ b < w5.heap.size)) R _ := s5.mono fun b hb hc => hc.imp id fun hc => ⟨hc, hb⟩
    refine (s5'.ext h6).frame h7 fun b _ hb hc => ?_
    rcases hb with hb | hb
    · have := (hR b hb).2.1; omega
    · omega

/-- A key's box bears the cut key. -/
theorem key_cut {wi w' : World} {K : Key} {u0 x : Value} {l : List UInt8} (HK : w'.heap[wi.heap.size]? = some (.cells #[u0, u64V K.seq, byteV K.kind] 30))
    (H1 : Own byteC 5 w' (wi.heap.size + 1) (fun _ => False) x ([] ++ l)) (hl : l.length ≤ 80) (hx : Ext wi w') :
    ∃ (k' : Key) (u' : Value), (w'.setCell ⟨wi.heap.size, 0, none⟩ x).heap[wi.heap.size]? = some (.cells #[u', u64V k'.seq, byteV k'.kind] 30) ∧
      Bs (w'.setCell ⟨wi.heap.size, 0, none⟩ x) (fun b => wi.heap.size < b ∧ b < (w'.setCell ⟨wi.heap.size, 0, none⟩ x).heap.size) u' k'.user ∧ Ext wi (w'.setCell ⟨wi.heap.size, 0, none⟩ x) := by
  have ho : Out (fun b => b = wi.heap.size) w' (w'.setCell ⟨wi.heap.size, 0, none⟩ x) := (Out.refl (fun b => b = wi.heap.size) w').setCell (p := ⟨wi.heap.size, 0, none⟩) (fun _ => rfl) _
  refine ⟨⟨l, K.seq, K.kind⟩, x, by have := blk_set HK 0 x; simpa using this, ?_, hx.then ho (fun i hi e => by omega)⟩
  have g1 := H1.sl (G := fun b => wi.heap.size < b ∧ b < w'.heap.size) (by decide) (by rw [List.nil_append]; show _ ≤ 140737488355328; omega) (fun b hb _ => hb.elim) (fun b hb hl => ⟨by omega, hl⟩)
  rw [List.nil_append] at g1
  have hsz := ho.size
  exact (g1.out ho (fun b _ hb e => by omega)).mono (fun b hb _ => ⟨hb.1, by omega⟩) (.inl (by decide))

/-- A box that bears what the document told. -/
def RBox (Wa wx : World) (E : Ent) (bo : Bool) (s t : Value) : Prop := ∃ (g : Nat) (u v : Value), s = .pointer (some ⟨g, 0, none⟩) ∧ t = .bool bo ∧ wx.heap[g]? = some (.cells #[u, u64V E.key.seq, byteV E.key.kind, v] 32) ∧ Bs wx (fun b => b < g) u E.key.user ∧ Bs wx (fun b => b < g) v E.value ∧ Ext Wa wx
theorem rbox_1 {Wa w7 : World} {F : Nat → Prop} {u v : Value} {E : Ent} {bo : Bool} (hx : Ext Wa w7) (hF : ∀ b, F b → b < Wa.heap.size) (hu : Bs w7 F u E.key.user) (hv : Bs w7 F v E.value) :
    RBox Wa (w7.alloc (.cells #[u, u64V E.key.seq, byteV E.key.kind, v] 32)) E bo (.pointer (some ⟨w7.heap.size, 0, none⟩)) (.bool bo) := by
  have h := hx.size
  exact ⟨_, u, v, rfl, rfl, blk_new _ _, (hu.alloc _).mono (fun b hb _ => by have := hF b hb; omega) (.inl (by decide)), (hv.alloc _).mono (fun b hb _ => by have := hF b hb; omega) (.inl (by decide)), hx.alloc _⟩
theorem rbox_2 {Wa w7 : World} {F : Nat → Prop} {g : Nat} {z0 z1 z2 z3 u v : Value} {E : Ent} {bo : Bool} (hx : Ext Wa w7) (hF : ∀ b, F b → b < Wa.heap.size) (hg : g = Wa.heap.size) (hz : w7.heap[g]? = some (.cells #[z0, z1, z2, z3] 32)) (hu : Bs w7 F u E.key.user) (hv : Bs w7 F v E.value) :
    RBox Wa ((((w7.setCell ⟨g, 0, none⟩ u).setCell ⟨g, 1, none⟩ (u64V E.key.seq)).setCell ⟨g, 2, none⟩ (byteV E.key.kind)).setCell ⟨g, 3, none⟩ v) E bo (.pointer (some ⟨g, 0, none⟩)) (.bool bo) := by
  have ho := out_set4 (S := fun b => b = g) (Out.refl _ w7) (g := g) (fun _ => rfl) u (u64V E.key.seq) (byteV E.key.kind) v
  exact ⟨_, u, v, rfl, rfl, blk_set4 hz _ _ _ _, (hu.out ho (fun b _ hb e => by have := hF b hb; omega)).mono (fun b hb _ => by have := hF b hb; omega) (.inl (by decide)), (hv.out ho (fun b _ hb e => by have := hF b hb; omega)).mono (fun b hb _ => by have := hF b hb; omega) (.inl (by decide)), hx.then ho (fun i hi e => by omega)⟩

/-- While the bytes of what was put are written over. -/
structure PkR (wA wq : World) (lo hi B : Nat) (o : Obj) (uu : Value) (nu : Nat) (vv : Value) (nv : Nat) : Prop where
  out : Out (fun b => lo ≤ b ∧ b < hi) wA wq
  box : wq.heap[B]? = some o
  hB : hi ≤ B
  bu : BsN wq (fun b => lo ≤ b ∧ b < hi) uu nu
  bv : BsN wq (fun b => lo ≤ b ∧ b < hi) vv nv
theorem PkR.poke {wA wq : World} {lo hi B : Nat} {o : Obj} {uu vv : Value} {nu nv : Nat} (h : PkR wA wq lo hi B o uu nu vv nv) {p : Addr} {x : UInt8} (hp : wq.cell? p = some (byteV x)) (y : UInt8) (hb : lo ≤ p.block ∧ p.block < hi) : PkR wA (wq.setCell p (byteV y)) lo hi B o uu nu vv nv :=
  ⟨h.out.setCell (fun _ => hb) _, blk_far h.box (by have := h.hB; omega) _, h.hB, h.bu.poke hp y, h.bv.poke hp y⟩
end Go.Proofs.Yteaanagljmcidaa
