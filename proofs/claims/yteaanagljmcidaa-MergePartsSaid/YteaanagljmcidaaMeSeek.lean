/- merge: where a source is to stand: sort.Search, seek; the rounds of set. -/
import Derived.Test.YteaanagljmcidaaMeMem
import Derived.Shelf.Abstract
namespace Go.Proofs.Yteaanagljmcidaa
open Go.RowKit

attribute [local go_sem ↓] Go.wp_at_zero Go.wp_at_succ

theorem Out.frz {w w' : World} (h : Ext w w') {g : Nat} (hg : g < w.heap.size ∧ ∀ i, w.frozen? ⟨g, i, none⟩ = false) : g < w'.heap.size ∧ ∀ i, w'.frozen? ⟨g, i, none⟩ = false :=
  ⟨Nat.lt_of_lt_of_le hg.1 h.size, fun i => (h.old.2 g i hg.1).trans (hg.2 i)⟩
theorem geq_zero (n : Int) : decide (0 ≤ n) = !decide (n < 0) := by
  by_cases h : n < 0 <;> simp [h] <;> omega

set_option maxHeartbeats 1000000 in
/-- seek's test: isn't entry i ahead? -/
theorem me_test (w : World) {F G : Nat → Prop} {D K g off : Nat} {x u : Value} {l : List Ent} {k : Key} (h1 : w.cell? ⟨D, 0, none⟩ = some (.pointer (some ⟨g, off, none⟩))) (h2 : w.cell? ⟨g, off, none⟩ = some x)
    (hx : Sl entC w F x l) (hk : w.cell? ⟨K, 0, none⟩ = some u ∧ w.cell? ⟨K, 1, none⟩ = some (u64V k.seq) ∧ w.cell? ⟨K, 2, none⟩ = some (byteV k.kind)) (hu : Bs w G u k.user) (i : Nat) (hi : i < l.length) :
    Calls Try.prog 155 #[.int .i64 i, .pointer (some ⟨D, 0, none⟩), .pointer (some ⟨K, 0, none⟩)] w fun e w' => e = .returned (.bool (!decide (kcmp l[i].key k < 0))) ∧ Ext w w' := by
  obtain ⟨A, cap, rfl, hcap, hmax, hbig, -⟩ := hx.form
  obtain ⟨k0, k1, k2⟩ := hk
  obtain ⟨b1, o1, u1, v1, rfl, -, c0, c1, c2, c3, hu1, hv1⟩ := hx.ent i hi
  obtain ⟨U, N1, n1, rfl⟩ := hu1.form0
  obtain ⟨U', N2, n2, rfl⟩ := hu.form0
  have hbig' : l.length ≤ 140737488355328 := hbig
  have Hu1 := Lib.hid hu1.drew
  have Hu := Lib.hid hu.drew
  clear hx hu hu1 hv1 hbig hcap hmax
  go_enter Try.func155, Try.ntmps155
  go_wp2
  go_region_held3 (fun w' => w'.cell? ⟨D, 0, none⟩ = some (.pointer (some ⟨g, off, none⟩)) ∧ w'.cell? ⟨g, off, none⟩ = some (.slice (some ⟨b1, o1, none⟩) l.length cap) ∧ w'.cell? ⟨b1, o1 + i * 4, none⟩ = some (.slice U N1 n1) ∧ w'.cell? ⟨b1, o1 + i * 4 + 1, none⟩ = some (u64V l[i].key.seq) ∧ w'.cell? ⟨b1, o1 + i * 4 + 2, none⟩ = some (byteV l[i].key.kind) ∧ w'.cell? ⟨K, 0, none⟩ = some (.slice U' N2 n2) ∧ w'.cell? ⟨K, 1, none⟩ = some (u64V k.seq) ∧ w'.cell? ⟨K, 2, none⟩ = some (byteV k.kind))
    (first | go_keep | exact ⟨hx1.cell h1 (fun f => f), hx1.cell h2 (fun f => f), hx1.cell c0 (fun f => f), hx1.cell c1 (fun f => f), hx1.cell c2 (fun f => f), hx1.cell k0 (fun f => f), hx1.cell k1 (fun f => f), hx1.cell k2 (fun f => f)⟩) (first | (go_at_call 98; refine (ikey_compare _ l[i].key k Hu1.out Hu.out).mono ?_; rintro e w1 ⟨rfl, hx1⟩))
  go_wp2
  go_ret
  exact ⟨by rw [geq_zero]; rfl, (Out.refl _ w).drew.ext hx1⟩

set_option maxHeartbeats 1000000 in
/-- sort.Search over a test that, once it holds, holds. -/
theorem sort_search (w : World) (I : World → Prop) (hI : ∀ a b, I a → Ext a b → I b) (gf : Nat) (eg : ∀ args w, (callFunc gf args).run Try.prog w = .ok (.enter gf args) w) (lb : Array Value) (n : Nat) (p : Nat → Bool) (hn : n ≤ 140737488355328)
    (hc : ∀ w1 i, I w1 → i < n → Calls Try.prog gf (#[.int .i64 i] ++ lb) w1 fun e w2 => e = .returned (.bool (p i)) ∧ Ext w1 w2) (hp : ∀ i j, i ≤ j → p i = true → p j = true) (h0 : I w) :
    Calls Try.prog 154 #[.int .i64 n, .func (.func gf) #[] lb] w fun e w' => ∃ m : Nat, e = .returned (.int .i64 m) ∧ m ≤ n ∧ (∀ i, i < n → (p i = true ↔ m ≤ i)) ∧ Ext w w' := by
  have Hc := Lib.hid hc
  have Hp := Lib.hid hp
  have HI := Lib.hid hI
  have H0 := Lib.hid h0
  clear hc hp hI h0
  go_enter Try.func154, Try.ntmps154
  go_wp2
  go_loopw [5, 6] (fun s5 s6 wr => ∃ a b : Nat, s5 = .int .i64 a ∧ s6 = .int .i64 b ∧ a ≤ b ∧ b ≤ n ∧ Hid (∀ x, x < a → p x = false) ∧ Hid (∀ x, b ≤ x → x < n → p x = true) ∧ Hid (Ext w wr)) (fun s5 s6 _ => (intOf s6).toNat - (intOf s5).toNat)
  case atStart => exact ⟨0, n, rfl, rfl, Nat.zero_le _, Nat.le_refl _, Lib.hid fun x hx => absurd hx (by omega), Lib.hid fun x h1 h2 => by omega, Lib.hid (Out.refl _ w)⟩
  case round =>
    obtain ⟨a, b, rfl, rfl, hab, hbn, ha, hb, hx⟩ := hrel
    by_cases hlt : a < b
    · obtain ⟨m, hm⟩ : ∃ m, m = (a + b) / 2 := ⟨_, rfl⟩
      have Hm := Lib.hid (show ((a : Int) + b) / 2 = (m : Int) by omega)
      have hma : a ≤ m ∧ m < b := by omega
      clear hm
      go_wp2_with (go_at_fn gf; rw [Hm.out]; refine (Hc.out _ m (HI.out _ _ H0.out hx.out) (by omega)).mono ?_; rintro e w1 ⟨rfl, hx1⟩; cases hpm : p m)
      all_goals go_roundw
      case rel => exact ⟨m + 1, b, by go_num, rfl, by omega, hbn, Lib.hid fun x hx => by
          cases hpx : p x with
          | false => rfl
          | true => exact absurd (Hp.out x m (by omega) hpx) (by rw [hpm]; decide), hb, Lib.hid (hx.out.ext hx1)⟩
      case measure => simp [intOf]; omega
      case rel => exact ⟨a, m, rfl, rfl, by omega, by omega, ha, Lib.hid fun x h1 h2 => Hp.out m x h1 hpm, Lib.hid (hx.out.ext hx1)⟩
      case measure => simp [intOf]; omega
    · go_wp2
      go_ret
      obtain rfl : a = b := by omega
      exact ⟨a, rfl, hbn, fun i hi => ⟨fun hpi => Nat.le_of_not_lt fun h => (by rw [ha.out i h] at hpi; cases hpi), fun h => hb.out i h hi⟩, hx.out⟩

set_option maxHeartbeats 1000000 in
/-- seek: the source at (g, off) stands at the first that isn't ahead. -/
theorem me_seek (w : World) {F G : Nat → Prop} {g off : Nat} {x u : Value} {l : List Ent} {k : Key} {y : Int} (h0 : w.cell? ⟨g, off, none⟩ = some x) (h1 : w.cell? ⟨g, off + 1, none⟩ = some (.int .i64 y)) (hf : ∀ i, w.frozen? ⟨g, i, none⟩ = false)
    (hx : Sl entC w F x l) (hu : Bs w G u k.user) (hs : SortedE l) :
    Calls Try.prog 111 #[.pointer (some ⟨g, off, none⟩), .agg #[u, u64V k.seq, byteV k.kind]] w fun e w' => e = .returned (.tuple #[]) ∧ SetAt w w' g (off + 1) (.int .i64 (aheadN l k)) := by
  obtain ⟨A, cap, rfl, hcap, hmax, hbig, -⟩ := hx.form
  obtain ⟨U', N2, n2, rfl⟩ := hu.form0
  have hbig' : l.length ≤ 140737488355328 := hbig
  have hg : g < w.heap.size := World.block_lt_of_cell? w _ h0
  have hx2 : Ext w ((w.alloc (.cells #[.pointer (some ⟨g, off, none⟩)] 162)).alloc (.cells #[.slice U' N2 n2, u64V k.seq, byteV k.kind] 30)) := ((Out.refl _ w).alloc _).alloc _
  obtain ⟨k0, k1, k2, -⟩ := cells3 (blk_new (w.alloc (.cells #[.pointer (some ⟨g, off, none⟩)] 162)) (.cells #[.slice U' N2 n2, u64V k.seq, byteV k.kind] 30))
  obtain ⟨s0, -⟩ := cells1 (blk_alloc (blk_new w (.cells #[.pointer (some ⟨g, off, none⟩)] 162)) (.cells #[.slice U' N2 n2, u64V k.seq, byteV k.kind] 30))
  simp only [World.size_alloc] at k0 k1 k2
  have e0 := (hx2.drew).cell h0 (fun f => f)
  have e1 := (hx2.drew).cell h1 (fun f => f)
  have ef : g < ((w.alloc (.cells #[.pointer (some ⟨g, off, none⟩)] 162)).alloc (.cells #[.slice U' N2 n2, u64V k.seq, byteV k.kind] 30)).drew.heap.size ∧ ∀ i, ((w.alloc (.cells #[.pointer (some ⟨g, off, none⟩)] 162)).alloc (.cells #[.slice U' N2 n2, u64V k.seq, byteV k.kind] 30)).drew.frozen? ⟨g, i, none⟩ = false := (hx2.drew).frz ⟨hg, hf⟩
  have Hx := Lib.hid (hx.ext hx2).drew
  have Hu := Lib.hid (hu.ext hx2).drew
  have Hs := Lib.hid hs
  have HX := Lib.hid hx2
  clear hx hu hs hbig hcap hmax hx2
  have hp : ∀ i j, i ≤ j → (fun i => if h : i < l.length then !decide (kcmp l[i].key k < 0) else true) i = true → (fun i => if h : i < l.length then !decide (kcmp l[i].key k < 0) else true) j = true := fun i j hij hi => by
    by_cases hj : j < l.length
    · have hil : i < l.length := by omega
      simp only [hil, hj, dif_pos, Bool.not_eq_true', decide_eq_false_iff_not] at hi ⊢
      intro hlt
      rcases Nat.lt_or_ge i j with h | h
      · exact hi (kcmp_trans (Hs.out.lt hil hj h) hlt)
      · obtain rfl : i = j := by omega
        exact hi hlt
    · simp [hj]
  have Hp := Lib.hid hp
  clear hp
  have eg := enters_of Try.func155 (by kernel_rfl) rfl
  go_enter Try.func111, Try.ntmps111
  go_wp2
  go_region_held3 (fun w' => w'.cell? ⟨w.heap.size, 0, none⟩ = some (.pointer (some ⟨g, off, none⟩)) ∧ w'.cell? ⟨g, off, none⟩ = some (.slice A l.length cap)) (first | go_keep | exact ⟨hx1.cell s0 (fun f => f), hx1.cell e0 (fun f => f)⟩ | exact ⟨(setCell_other (by intro e; injection e with e1 e2; omega)).trans (hx1.cell s0 (fun f => f)), (setCell_other (by intro e; injection e with e1 e2; omega)).trans (hx1.cell e0 (fun f => f))⟩)
    (first | (go_at_call 154; refine (sort_search _ (fun w1 => Ext ((w.alloc (.cells #[.pointer (some ⟨g, off, none⟩)] 162)).alloc (.cells #[.slice U' N2 n2, u64V k.seq, byteV k.kind] 30)).drew w1) (fun a b h hx => h.ext hx) 155 eg _ l.length _ hbig' (fun w1 i hI hi => by
        have h := me_test w1 (hI.cell s0 (fun f => f)) (hI.cell e0 (fun f => f)) (Hx.out.ext hI) ⟨hI.cell k0 (fun f => f), hI.cell k1 (fun f => f), hI.cell k2 (fun f => f)⟩ (Hu.out.ext hI) i hi
        simp only [hi, dif_pos]
        exact h) Hp.out (Out.refl _ _)).mono ?_; rintro e w1 ⟨m, rfl, hm, hmi, hx1⟩; have z1 := hx1.cell e1 (fun f => f); obtain ⟨zl, zf⟩ := hx1.frz ef))
  go_wp2
  go_end0
  have hm' : m = aheadN l k := by
    rw [← cut_ahead]
    have hc := fun {i} (hi : i < l.length) => Hs.out.has (down_ahead k) hi
    have hle := cut_le (fun j => decide (kcmp j k < 0)) l
    rcases Nat.lt_trichotomy m (cut (fun j => decide (kcmp j k < 0)) l) with h | h | h
    · have h2 := (hc (i := m) (by omega)).2 h
      have h3 := (hmi m (by omega)).2 (Nat.le_refl _)
      have hml : m < l.length := by omega
      simp only [hml, dif_pos, h2] at h3
      cases h3
    · exact h
    · have hml : cut (fun j => decide (kcmp j k < 0)) l < l.length := by omega
      have h2 := mt (hc hml).1 (Nat.lt_irrefl _)
      have h3 := mt (hmi _ hml).1 (by omega)
      simp only [hml, dif_pos, Bool.not_eq_true] at h3
      rw [Bool.not_eq_false'] at h3
      exact absurd h3 h2
  subst hm'
  exact ⟨rfl, ((SetAt.set w1 g (off + 1) _).pre (Out.ext HX.out.drew hx1))⟩

/-! ### the closures -/
variable {w : World} {F G : Nat → Prop} {g off : Nat} {x u z : Value} {l : List Ent} {k : Key} {y : Int}

theorem me_first1 (h1 : w.cell? ⟨g, off + 1, none⟩ = some z) (hf : ∀ i, w.frozen? ⟨g, i, none⟩ = false) :
    Calls Try.prog 106 #[.pointer (some ⟨g, off, none⟩)] w fun e w' => e = .returned (.tuple #[]) ∧ SetAt w w' g (off + 1) (.int .i64 0) := by
  go_enter Try.func106, Try.ntmps106
  go_wp2
  go_end0
  exact ⟨rfl, SetAt.set w g (off + 1) _⟩
theorem me_last1 (h0 : w.cell? ⟨g, off, none⟩ = some x) (h1 : w.cell? ⟨g, off + 1, none⟩ = some z) (hf : ∀ i, w.frozen? ⟨g, i, none⟩ = false) (hx : Sl entC w F x l) :
    Calls Try.prog 108 #[.pointer (some ⟨g, off, none⟩)] w fun e w' => e = .returned (.tuple #[]) ∧ SetAt w w' g (off + 1) (.int .i64 l.length) := by
  obtain ⟨A, cap, rfl, -⟩ := hx.form
  clear hx
  go_enter Try.func108, Try.ntmps108
  go_wp2
  go_end0
  exact ⟨rfl, SetAt.set w g (off + 1) _⟩
theorem me_from1 {K : Nat} (h0 : w.cell? ⟨g, off, none⟩ = some x) (h1 : w.cell? ⟨g, off + 1, none⟩ = some (.int .i64 y)) (hf : ∀ i, w.frozen? ⟨g, i, none⟩ = false) (hx : Sl entC w F x l) (hk : w.cell? ⟨K, 0, none⟩ = some u ∧ w.cell? ⟨K, 1, none⟩ = some (u64V k.seq) ∧ w.cell? ⟨K, 2, none⟩ = some (byteV k.kind)) (hu : Bs w G u k.user) (hs : SortedE l) :
    Calls Try.prog 110 #[.pointer (some ⟨g, off, none⟩), .pointer (some ⟨K, 0, none⟩)] w fun e w' => e = .returned (.tuple #[]) ∧ SetAt w w' g (off + 1) (.int .i64 (aheadN l k)) := by
  obtain ⟨k0, k1, k2⟩ := hk
  obtain ⟨U', N2, n2, rfl⟩ := hu.form0
  have H := Lib.hid (me_seek w h0 h1 hf hx hu hs)
  clear hx hu hs
  go_enter Try.func110, Try.ntmps110
  go_wp2_with (go_at_call 111; refine H.out.mono ?_; rintro e w1 ⟨rfl, h1⟩)
  go_end0
  exact ⟨rfl, h1⟩
theorem me_before1 {K : Nat} (h0 : w.cell? ⟨g, off, none⟩ = some x) (h1 : w.cell? ⟨g, off + 1, none⟩ = some (.int .i64 y)) (hf : ∀ i, w.frozen? ⟨g, i, none⟩ = false) (hx : Sl entC w F x l) (hk : w.cell? ⟨K, 0, none⟩ = some u ∧ w.cell? ⟨K, 1, none⟩ = some (u64V k.seq) ∧ w.cell? ⟨K, 2, none⟩ = some (byteV k.kind)) (hu : Bs w G u k.user) (hs : SortedE l) :
    Calls Try.prog 112 #[.pointer (some ⟨g, off, none⟩), .pointer (some ⟨K, 0, none⟩)] w fun e w' => e = .returned (.tuple #[]) ∧ SetAt w w' g (off + 1) (.int .i64 (aheadN l k)) := by
  obtain ⟨k0, k1, k2⟩ := hk
  obtain ⟨U', N2, n2, rfl⟩ := hu.form0
  have H := Lib.hid (me_seek w h0 h1 hf hx hu hs)
  clear hx hu hs
  go_enter Try.func112, Try.ntmps112
  go_wp2_with (go_at_call 111; refine H.out.mono ?_; rintro e w1 ⟨rfl, h1⟩)
  go_end0
  exact ⟨rfl, h1⟩

set_option maxHeartbeats 1000000 in
theorem me_next1 {K : Nat} {cs : Array Value} {t : TypeId} (hb : w.heap[g]? = some (.cells cs t)) (h0 : w.cell? ⟨g, off, none⟩ = some x) (h1 : w.cell? ⟨g, off + 1, none⟩ = some (.int .i64 y)) (hx : Sl entC w F x l) (hk : w.cell? ⟨K, 0, none⟩ = some u ∧ w.cell? ⟨K, 1, none⟩ = some (u64V k.seq) ∧ w.cell? ⟨K, 2, none⟩ = some (byteV k.kind)) (hK : K ≠ g) (hF : ¬ F g) (hG : ¬ G g) (hu : Bs w G u k.user) (hs : SortedE l) :
    Calls Try.prog 113 #[.pointer (some ⟨g, off, none⟩), .pointer (some ⟨K, 0, none⟩)] w fun e w' => e = .returned (.tuple #[]) ∧ SetAt w w' g (off + 1) (.int .i64 (cut (fun j => !decide (kcmp k j < 0)) l)) := by
  obtain ⟨k0, k1, k2⟩ := hk
  obtain ⟨U', N2, n2, rfl⟩ := hu.form0
  obtain ⟨A, cap, rfl, -, -, hbig, -⟩ := hx.form
  have hbig' : l.length ≤ 140737488355328 := hbig
  have hle := aheadN_le l k
  have H := Lib.hid (me_seek w h0 h1 (blk_free hb) hx hu hs)
  have Hx := Lib.hid hx
  have Hu := Lib.hid hu
  have Hs := Lib.hid (hs.upto k)
  clear hx hu hs hbig
  go_enter Try.func113, Try.ntmps113
  have c0 : cs[off]? = some (.slice A l.length cap) := (blk_cell hb off).symm.trans h0
  have c1 : cs[off + 1]? = some (.int .i64 y) := (blk_cell hb (off + 1)).symm.trans h1
  have hsz : off + 1 < cs.size := (Array.getElem?_eq_some_iff.1 c1).1
  clear h0 h1
  by_cases hlt : aheadN l k < l.length
  · obtain ⟨b1, o1, u1, v1, rfl, hFb, e0, e1, e2, e3, hu1, hv1⟩ := Hx.out.ent _ hlt
    obtain ⟨U1, N1, n1, rfl⟩ := hu1.form0
    have Hu1 := Lib.hid hu1
    clear hu1 hv1
    go_wp2_with (go_at_call 111; refine H.out.mono ?_; rintro e w1 ⟨rfl, hsa⟩; have hb1 := hsa.blk _ _ hb; have z0 := (blk_cell hb1 off).trans ((Array.getElem?_setIfInBounds_ne (by omega)).trans c0); have z1 : w1.cell? ⟨g, off + 1, none⟩ = some (.int .i64 (aheadN l k)) := (blk_cell hb1 (off + 1)).trans (by simp [hsz]); have zf := blk_free hb1; have y0 := hsa.out.cell e0 (fun e => hF (e ▸ hFb)); have y1 := hsa.out.cell e1 (fun e => hF (e ▸ hFb)); have y2 := hsa.out.cell e2 (fun e => hF (e ▸ hFb)); have q0 := hsa.out.cell k0 hK; have q1 := hsa.out.cell k1 hK; have q2 := hsa.out.cell k2 hK; have Hu1' := Lib.hid (Hu1.out.out hsa.out (fun b _ hb e => hF (e ▸ hb))).drew; have Hu' := Lib.hid (Hu.out.out hsa.out (fun b _ hb e => hG (e ▸ hb))).drew; have Hb1 := Lib.hid hb1; clear hb1 e0 e1 e2 k0 k1 k2)
    go_region_held3 (fun w' => w'.cell? ⟨g, off, none⟩ = some (.slice (some ⟨b1, o1, none⟩) l.length cap) ∧ w'.cell? ⟨g, off + 1, none⟩ = some (.int .i64 (aheadN l k)) ∧ w'.cell? ⟨b1, o1 + aheadN l k * 4, none⟩ = some (.slice U1 N1 n1) ∧ w'.cell? ⟨b1, o1 + aheadN l k * 4 + 1, none⟩ = some (u64V l[aheadN l k].key.seq) ∧ w'.cell? ⟨b1, o1 + aheadN l k * 4 + 2, none⟩ = some (byteV l[aheadN l k].key.kind) ∧ w'.cell? ⟨K, 0, none⟩ = some (.slice U' N2 n2) ∧ w'.cell? ⟨K, 1, none⟩ = some (u64V k.seq) ∧ w'.cell? ⟨K, 2, none⟩ = some (byteV k.kind))
      (first | go_keep | exact ⟨hx2.cell z0 (fun f => f), hx2.cell z1 (fun f => f), hx2.cell y0 (fun f => f), hx2.cell y1 (fun f => f), hx2.cell y2 (fun f => f), hx2.cell q0 (fun f => f), hx2.cell q1 (fun f => f), hx2.cell q2 (fun f => f)⟩) (first | (go_at_call 98; refine (ikey_compare _ l[aheadN l k].key k Hu1'.out Hu'.out).mono ?_; rintro e w2 ⟨rfl, hx2⟩))
    have hz : (kcmp l[aheadN l k].key k = 0) ↔ (l[aheadN l k]?).map (·.key) = some k := by rw [kcmp_zero, List.getElem?_eq_getElem hlt]; simp
    have zz1 : w2.cell? ⟨g, off + 1, none⟩ = some (.int .i64 (aheadN l k)) := (Out.ext (Out.refl (fun _ => False) w1).drew hx2).cell z1 (fun f => f)
    obtain ⟨-, zzf⟩ := hx2.frz (g := g) ⟨blk_lt Hb1.out, zf⟩
    by_cases heq : kcmp l[aheadN l k].key k = 0
    · rw [if_pos (hz.1 heq)] at Hs
      go_wp2
      go_end0
      refine ⟨rfl, ?_⟩
      rw [Hs.out]
      exact (hsa.ext (Out.ext (Out.refl _ w1).drew hx2)).again (by simpa using SetAt.set w2 g (off + 1) (.int .i64 ((aheadN l k : Int) + 1)))
    · rw [if_neg (fun h => heq (hz.2 h))] at Hs
      go_wp2
      go_end0
      refine ⟨rfl, ?_⟩
      rw [Hs.out]
      exact hsa.ext (Out.ext (Out.refl _ w1).drew hx2)
  · have hn : ¬ (l[aheadN l k]?).map (·.key) = some k := by rw [List.getElem?_eq_none (by omega)]; simp
    rw [if_neg hn] at Hs
    have hge : l.length ≤ aheadN l k := by omega
    go_wp2_with (go_at_call 111; refine H.out.mono ?_; rintro e w1 ⟨rfl, hsa⟩; have hb1 := hsa.blk _ _ hb; have z0 := (blk_cell hb1 off).trans ((Array.getElem?_setIfInBounds_ne (by omega)).trans c0); have z1 : w1.cell? ⟨g, off + 1, none⟩ = some (.int .i64 (aheadN l k)) := (blk_cell hb1 (off + 1)).trans (by simp [hsz]); have zf := blk_free hb1; have Hb1 := Lib.hid hb1; clear hb1)
    go_region
    go_wp2
    go_end0
    refine ⟨rfl, ?_⟩
    rw [Hs.out]
    exact hsa.ext (Out.refl _ w1).drew
end Go.Proofs.Yteaanagljmcidaa
