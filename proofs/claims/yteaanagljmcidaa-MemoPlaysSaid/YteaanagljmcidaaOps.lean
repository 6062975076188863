/- batch: CheckOp; ref04: CheckOp; memo: tall. batch: Check; ref04: Few. -/
import Derived.Test.YteaanagljmcidaaLight
import Derived.Test.YteaanagljmcidaaLeaf2
import Derived.Test.YteaanagljmcidaaFew
namespace Go.Proofs.Yteaanagljmcidaa
open Go.RowKit

attribute [local go_sem ↓] Go.wp_at_zero Go.wp_at_succ

structure OpE where
  kind : UInt8
  key : List UInt8
  val : List UInt8
  deriving DecidableEq, Inhabited
def opC : Codec OpE where
  size := 3
  rep w F cs s := ∃ u v, cs = [byteV s.kind, u, v] ∧ Bs w F u s.key ∧ Bs w F v s.val
  len := fun ⟨_, _, h, _⟩ => by rw [h]; rfl
  one := fun ⟨u, v, h, hb, hc⟩ x hx => by
    rw [h] at hx; obtain ⟨A, cap, rfl, _⟩ := hb.form; obtain ⟨A', cap', rfl, _⟩ := hc.form
    simp only [List.mem_cons, List.not_mem_nil, or_false] at hx
    rcases hx with rfl | rfl | rfl <;> rfl
  frame := fun ⟨u, v, h, hb, hc⟩ hF => ⟨u, v, h, hb.frame hF, hc.frame hF⟩
  mono := fun ⟨u, v, h, hb, hc⟩ hF => ⟨u, v, h, hb.mono hF (.inl (by decide)), hc.mono hF (.inl (by decide))⟩
/-- An op's fault. -/
def ocheckI (kd a b : Nat) (q : Bool) : Int :=
  if kd ≠ 1 ∧ kd ≠ 2 ∧ kd ≠ 3 then 1 else if 64 < a ∨ kd = 2 ∧ 512 < b ∨ kd = 3 ∧ 64 < b then 3 else if a = 0 ∨ kd = 1 ∧ 0 < b ∨ kd = 3 ∧ q = false then 4 else 0
def ocheck (o : OpE) : Int := ocheckI o.kind.toNat o.key.length o.val.length (Op.bytesLess o.key o.val)

set_option maxRecDepth 100000 in
set_option maxHeartbeats 4000000 in
theorem batch_checkI (w : World) (U V : Option Addr) (kd a n b m : Nat) (q : Bool)
    (HL : Calls Try.prog 128 #[.slice U a n, .slice V b m] (w.alloc (.cells #[.int .u8 kd, .slice U a n, .slice V b m] 112)) fun e w' => e = .returned (.bool q) ∧ (w.alloc (.cells #[.int .u8 kd, .slice U a n, .slice V b m] 112)) = w') :
    Calls Try.prog 143 #[.agg #[.int .u8 kd, .slice U a n, .slice V b m]] w fun e w' => e = .returned (.int .i64 (ocheckI kd a b q)) ∧ Ext w w' := by
  obtain ⟨z0, z1, z2, -⟩ := cells3 (blk_new w (.cells #[.int .u8 kd, .slice U a n, .slice V b m] 112))
  have X1 := Lib.hid (Ext.alloc1 w (.cells #[.int .u8 kd, .slice U a n, .slice V b m] 112))
  have H := Lib.hid HL
  clear HL
  unfold ocheckI
  by_cases h1 : kd = 1
  · subst h1
    clear H
    go_enter Try.func143, Try.ntmps143
    go_wp2
    all_goals
      go_ret
      refine ⟨ret_of ?_, (by first | exact X1.out | exact Ext.alloc1 _ _ | exact Out.refl _ _)⟩
      (try simp only [beq_iff_eq, bne_iff_ne, beq_eq_false_iff_ne, bne_eq_false_iff_eq, ne_eq] at *) <;> (first | omega | ((repeat' split) <;> first | rfl | omega) | (simp <;> omega))
  by_cases h2 : kd = 2
  · subst h2
    clear H h1
    go_enter Try.func143, Try.ntmps143
    go_wp2
    all_goals
      go_ret
      refine ⟨ret_of ?_, (by first | exact X1.out | exact Ext.alloc1 _ _ | exact Out.refl _ _)⟩
      (try simp only [beq_iff_eq, bne_iff_ne, beq_eq_false_iff_ne, bne_eq_false_iff_eq, ne_eq] at *) <;> (first | omega | ((repeat' split) <;> first | rfl | omega) | (simp <;> omega))
  by_cases h3 : kd = 3
  · subst h3
    clear h1 h2
    cases q
    all_goals
      go_enter Try.func143, Try.ntmps143
      go_wp2_with (go_at_call 128; refine H.out.mono ?_; rintro r w1 ⟨rfl, rfl⟩)
    all_goals
      go_ret
      refine ⟨ret_of ?_, (by first | exact X1.out | exact Ext.alloc1 _ _ | exact Out.refl _ _)⟩
      (try simp only [beq_iff_eq, bne_iff_ne, beq_eq_false_iff_ne, bne_eq_false_iff_eq, ne_eq] at *) <;> (first | omega | ((repeat' split) <;> first | rfl | omega) | (simp <;> omega))
  · clear H
    go_enter Try.func143, Try.ntmps143
    go_wp2
    all_goals
      go_ret
      refine ⟨ret_of ?_, (by first | exact X1.out | exact Ext.alloc1 _ _ | exact Out.refl _ _)⟩
      (try simp only [beq_iff_eq, bne_iff_ne, beq_eq_false_iff_ne, bne_eq_false_iff_eq, ne_eq] at *) <;> (first | omega | ((repeat' split) <;> first | rfl | omega) | (simp <;> omega))
theorem batch_check1 (w : World) {F G : Nat → Prop} {u v : Value} (o : OpE) (hu : Bs w F u o.key) (hv : Bs w G v o.val) : Calls Try.prog 143 #[.agg #[byteV o.kind, u, v]] w fun e w' => e = .returned (.int .i64 (ocheck o)) ∧ Ext w w' := by
  obtain ⟨U, n, rfl, -⟩ := hu.form
  obtain ⟨V, m, rfl, -⟩ := hv.form
  exact batch_checkI w U V _ _ n _ m _ (atom_less _ (hu.alloc _) (hv.alloc _))

theorem memo_tall (w : World) (h : Int) : Calls Try.prog 144 #[.int .i64 h] w fun e w' => e = .returned (.bool (decide (1 ≤ h ∧ h ≤ 8))) ∧ w = w' := by
  go_enter Try.func144, Try.ntmps144
  go_wp2
  all_goals
    go_ret
    refine ⟨retb_of ?_, rfl⟩
    rw [Bool.eq_iff_iff]; simp; omega
end Go.Proofs.Yteaanagljmcidaa
namespace Go.Proofs.Yteaanagljmcidaa
open Go.RowKit

attribute [local go_sem ↓] Go.wp_at_zero Go.wp_at_succ

def opCA : Codec OpE where
  size := 3
  rep w F cs s := ∃ u v, cs = [byteV s.kind, u, v] ∧ BsA w F u s.key ∧ BsA w F v s.val
  len := fun ⟨_, _, h, _⟩ => by rw [h]; rfl
  one := fun ⟨u, v, h, hb, hc⟩ x hx => by
    rw [h] at hx; obtain ⟨A, cap, rfl, _⟩ := hb.form; obtain ⟨A', cap', rfl, _⟩ := hc.form
    simp only [List.mem_cons, List.not_mem_nil, or_false] at hx
    rcases hx with rfl | rfl | rfl <;> rfl
  frame := fun ⟨u, v, h, hb, hc⟩ hF => ⟨u, v, h, hb.frame hF, hc.frame hF⟩
  mono := fun ⟨u, v, h, hb, hc⟩ hF => ⟨u, v, h, hb.mono hF (.inl (by decide)), hc.mono hF (.inl (by decide))⟩
  bound := maxLen
  bpos := by decide
theorem fits112 : Fits Try.prog 101 112 opC.size 56 := fits_of Try.underlying101 (by decide) (by kernel_rfl : (Try.prog.info? 112).map (fun i => (i.zero, i.size, i.bytes)) = some (some (.agg #[.int .u8 0, .slice none 0 0, .slice none 0 0]), 3, 56)) rfl
theorem Sl.op {w : World} {F : Nat → Prop} {A : Option Addr} {n cap : Nat} {l : List OpE} (h : Sl opC w F (.slice A n cap) l) (i : Nat) (hi : i < l.length) :
    ∃ b off u v, A = some ⟨b, off, none⟩ ∧ F b ∧ w.cell? ⟨b, off + i * 3, none⟩ = some (byteV l[i].kind) ∧ w.cell? ⟨b, off + i * 3 + 1, none⟩ = some u ∧ w.cell? ⟨b, off + i * 3 + 2, none⟩ = some v ∧ Bs w F u l[i].key ∧ Bs w F v l[i].val := by
  obtain ⟨b, off, cs, hA, hF, hat, u, v, rfl, h1, h2⟩ := h.get i hi
  exact ⟨b, off, u, v, hA, hF, hat 0 _ rfl, hat 1 _ rfl, hat 2 _ rfl, h1, h2⟩
theorem Sl.opA {w : World} {F : Nat → Prop} {A : Option Addr} {n cap : Nat} {l : List OpE} (h : Sl opCA w F (.slice A n cap) l) (i : Nat) (hi : i < l.length) :
    ∃ b off u v, A = some ⟨b, off, none⟩ ∧ F b ∧ w.cell? ⟨b, off + i * 3, none⟩ = some (byteV l[i].kind) ∧ w.cell? ⟨b, off + i * 3 + 1, none⟩ = some u ∧ w.cell? ⟨b, off + i * 3 + 2, none⟩ = some v ∧ BsA w F u l[i].key ∧ BsA w F v l[i].val := by
  obtain ⟨b, off, cs, hA, hF, hat, u, v, rfl, h1, h2⟩ := h.get i hi
  exact ⟨b, off, u, v, hA, hF, hat 0 _ rfl, hat 1 _ rfl, hat 2 _ rfl, h1, h2⟩
theorem op_rep {w : World} {F G H : Nat → Prop} {u v : Value} {e : OpE} (hu : Bs w F u e.key) (hv : Bs w G v e.val) (hF : ∀ b, F b → b < w.heap.size → H b) (hG : ∀ b, G b → b < w.heap.size → H b) :
    opC.rep w H [byteV e.kind, u, v] e := ⟨u, v, rfl, hu.mono hF (.inl (by decide)), hv.mono hG (.inl (by decide))⟩

/-- A batch's fault. -/
def bcheckL : List OpE → Int
  | [] => 0
  | o :: l => if ocheck o ≠ 0 then ocheck o else bcheckL l
def bcheck (l : List OpE) : Int := if 64 < l.length then 3 else bcheckL l
theorem bcheckL_at : ∀ {l : List OpE} {i : Nat} (hi : i < l.length), (∀ j (_ : j < i) (hj : j < l.length), ocheck l[j] = 0) → ocheck l[i] ≠ 0 → bcheckL l = ocheck l[i]
  | [], _, hi, _, _ => absurd hi (by simp)
  | o :: l, 0, _, _, h => by unfold bcheckL; exact if_pos h
  | o :: l, i + 1, hi, hp, h => by
    have h0 := hp 0 (by omega) (by simp)
    unfold bcheckL
    rw [if_neg (by simpa using h0)]
    exact bcheckL_at (l := l) (i := i) (by simpa using hi) (fun j hj hjl => by have := hp (j + 1) (by omega) (by simp; omega); simpa using this) h
theorem bcheckL_all : ∀ {l : List OpE}, (∀ j (hj : j < l.length), ocheck l[j] = 0) → bcheckL l = 0
  | [], _ => rfl
  | o :: l, hp => by
    have h0 := hp 0 (by simp)
    unfold bcheckL
    rw [if_neg (by simpa using h0)]
    exact bcheckL_all fun j hj => by have := hp (j + 1) (by simp; omega); simpa using this
theorem bcheckL_ok : ∀ {l : List OpE}, bcheckL l = 0 → ∀ o ∈ l, ocheck o = 0
  | [], _, o, ho => by cases ho
  | o :: l, h, x, hx => by
    unfold bcheckL at h
    split at h
    · rename_i hc; exact absurd h hc
    · rename_i hc
      rcases List.mem_cons.1 hx with rfl | hx
      · simpa using hc
      · exact bcheckL_ok h x hx

set_option maxRecDepth 100000 in
set_option maxHeartbeats 2000000 in
theorem batch_check (w : World) {F : Nat → Prop} {v : Value} (l : List OpE) (hv : Sl opC w F v l) : Calls Try.prog 146 #[v] w fun e w' => e = .returned (.int .i64 (bcheck l)) ∧ Ext w w' := by
  obtain ⟨A, cap, rfl, h1, h2, h3, h4⟩ := hv.form
  have h5 : l.length ≤ 140737488355328 := h3
  have Hv := Lib.hid hv
  clear h1 h2 h3 h4 hv
  unfold bcheck
  by_cases hl : 64 < l.length
  · rw [if_pos hl]
    go_enter Try.func146, Try.ntmps146
    go_wp2
    go_ret
    exact ⟨rfl, Out.refl _ _⟩
  rw [if_neg hl]
  have hl' : l.length ≤ 64 := by omega
  clear hl
  go_enter Try.func146, Try.ntmps146
  go_wp2
  go_loopw [11] (fun s wr => ∃ i : Nat, i ≤ l.length ∧ s = .int .i64 i ∧ Ext w wr ∧ (∀ j (_ : j < i) (hj : j < l.length), ocheck l[j] = 0)) (fun s _ => l.length - (intOf s).toNat)
  case atStart => exact ⟨0, Nat.zero_le _, rfl, Out.refl _ _, fun j hj => absurd hj (by omega)⟩
  case round =>
    obtain ⟨i, hi, rfl, hxi, hall⟩ := hrel
    have HX := Lib.hid hxi
    have Hall := Lib.hid hall
    clear hxi hall
    by_cases hlt : i < l.length
    · obtain ⟨b, off, u, x, rfl, -, c0, c1, c2, hu, hx⟩ := (Hv.out.ext HX.out).op i hlt
      obtain ⟨U, N1, n1, rfl⟩ := hu.form0
      obtain ⟨X, N2, n2, rfl⟩ := hx.form0
      have x1 := Ext.alloc1 wr (.cells #[byteV l[i].kind, .slice U N1 n1, .slice X N2 n2] 112)
      obtain ⟨z0, z1, z2, -⟩ := cells3 (blk_new wr (.cells #[byteV l[i].kind, .slice U N1 n1, .slice X N2 n2] 112))
      have HC := Lib.hid (batch_check1 (wr.alloc (.cells #[byteV l[i].kind, .slice U N1 n1, .slice X N2 n2] 112)) l[i] (hu.ext x1) (hx.ext x1))
      have X1 := Lib.hid (HX.out.ext x1)
      have Hat := Lib.hid (bcheckL_at hlt Hall.out)
      clear hu hx x1
      obtain ⟨c, hc⟩ : ∃ c, ocheck l[i] = c := ⟨_, rfl⟩
      rw [hc] at HC Hat
      have Hc := Lib.hid hc
      clear hc
      by_cases h0 : c = 0
      · subst h0
        go_wp2_with (go_at_call 143; refine HC.out.mono ?_; rintro r w1 ⟨rfl, hx1⟩)
        go_roundw
        case rel => exact ⟨i + 1, by omega, by go_num, X1.out.ext hx1, fun j hj hjl => by
          rcases Nat.lt_or_ge j i with h | h
          · exact Hall.out j h hjl
          · obtain rfl : j = i := by omega
            exact Hc.out⟩
        case measure => simp [intOf]; omega
      · have hcb : (c != 0) = true := by simpa using h0
        have He := Lib.hid (Hat.out h0)
        clear h0 Hat
        go_wp2_with (go_at_call 143; refine HC.out.mono ?_; rintro r w1 ⟨rfl, hx1⟩)
        go_ret
        exact ⟨ret_of He.out.symm, X1.out.ext hx1⟩
    · obtain rfl : i = l.length := by omega
      go_wp2
      go_ret
      exact ⟨ret_of (bcheckL_all fun j hj => Hall.out j hj hj).symm, HX.out⟩

def cutO (o : OpE) : OpE := ⟨o.kind, o.key.take 80, o.val.take 600⟩
theorem room_minO {l : List OpE} {k n : Nat} (hn : n ≤ 1000) : (((l.take (min k n)).map cutO).length + 1) * 56 ≤ 140737488355328 := by
  have : ((l.take (min k n)).map cutO).length ≤ n := by rw [List.length_map, List.length_take]; omega
  omega

set_option maxRecDepth 100000 in
set_option maxHeartbeats 1000000 in
theorem r4_few (w : World) {F : Nat → Prop} {x : Value} (l : List OpE) (hx : Sl opCA w F x l) (n : Nat) (hn : n ≤ 1000) :
    Calls Try.prog 83 #[x, .int .i64 (n : Int)] w (OwnedM opC 112 w ((l.take n).map cutO)) := by
  obtain ⟨A, cap, rfl, h1, h2, h3, h4⟩ := hx.form
  have h5 : l.length ≤ 9223372036854775807 := h3
  have Hx := Lib.hid hx
  clear h1 h2 h3 h4 hx
  go_enter Try.func83, Try.ntmps83
  go_wp2
  go_loopw [5, 10] (fun o i wr => ∃ k : Nat, k ≤ l.length ∧ i = .int .i64 k ∧ Own opC 112 wr w.heap.size (fun b => w.heap.size ≤ b) o ((l.take (min k n)).map cutO) ∧ Ext w wr) (fun _ i _ => l.length - (intOf i).toNat)
  case atStart => exact ⟨0, Nat.zero_le _, rfl, by rw [Nat.zero_min]; exact Own.nil _ _ _ _ _, Out.refl _ w⟩
  case round =>
    obtain ⟨k, hk, rfl, hown, hext⟩ := hrel
    by_cases hlt : k < l.length
    · obtain ⟨b1, o1, u1, v1, rfl, -, c0, c1, c2, hu, hv⟩ := (Hx.out.ext hext).opA k hlt
      obtain ⟨U, N1, n1, rfl⟩ := hu.form0
      obtain ⟨V, N2, n2, rfl⟩ := hv.form0
      have hsz := hext.size
      have hown' := hown.ext (Ext.alloc1 wr (.cells #[byteV l[k].kind, .slice U N1 n1, .slice V N2 n2] 112))
      by_cases hkn : k < n
      · have hu' := (hu.alloc (.cells #[byteV l[k].kind, .slice U N1 n1, .slice V N2 n2] 112)).drew
        have hv' := (hv.alloc (.cells #[byteV l[k].kind, .slice U N1 n1, .slice V N2 n2] 112)).drew
        obtain ⟨z0, z1, z2, -⟩ := cells3 (blk_new wr (.cells #[byteV l[k].kind, .slice U N1 n1, .slice V N2 n2] 112))
        have Own' := Lib.hid hown'
        have Lt := Lib.hid hown'.lt
        have Sz := Lib.hid (le_alloc hsz (.cells #[byteV l[k].kind, .slice U N1 n1, .slice V N2 n2] 112))
        have Ne := Lib.hid hown.ne_new
        have Hext := Lib.hid hext
        clear hext hown hown'
        go_wp2
        go_region_held3 (fun w' => w'.cell? ⟨wr.heap.size, 0, none⟩ = some (byteV l[k].kind) ∧ w'.cell? ⟨wr.heap.size, 1, none⟩ = some (.slice U N1 n1) ∧ w'.cell? ⟨wr.heap.size, 2, none⟩ = some (.slice V N2 n2)) (first | go_keep | (refine ⟨?_, ?_, ?_⟩ <;> exact hx1.cell (by assumption) (fun f => f)) | (refine ⟨?_, ?_, ?_⟩ <;> exact hx2.cell (hx1.cell (by assumption) (fun f => f)) (fun f => f)) | (refine ⟨?_, ?_, ?_⟩ <;> exact g2.cell (cell_alloc (hx2.cell (hx1.cell (by assumption) (fun f => f)) (fun f => f)) _) Ne.out))
          (first | (go_at_call 77; refine (r1_cutI _ (hv'.ext hx1) 600 600 rfl (by decide)).mono ?_; rintro x w2 ⟨x2, rfl, hx2, hb2⟩; obtain ⟨A2, k2, m2, rfl⟩ := hb2.form0) | (go_at_call 77; refine (r1_cutI _ hu' 80 80 rfl (by decide)).mono ?_; rintro x w1 ⟨x1, rfl, hx1, hb1⟩; obtain ⟨A1, k1, m1, rfl⟩ := hb1.form0) | (refine step_append_one (by rfl) (.tmp 18) (.tmp 28) 101 (by rfl) fits112 ((((Own'.out.ext (Out.refl _ _).drew).ext hx1).ext hx2).ext (Ext.alloc1 _ _)) (by rfl) (le_alloc (Nat.le_trans Sz.out (Nat.le_trans hx1.size hx2.size)) _) (blk_new _ _) (by rfl) (cutO l[k]) (op_rep (e := cutO l[k]) ((hb1.ext hx2).alloc _) (hb2.alloc _) (fun b hb _ => fresh_ok Sz.out Lt.out hb) (fun b hb _ => fresh_ok Sz.out Lt.out (Nat.le_trans hx1.size hb))) (room_minO hn) (by decide) ?_; intro v' w' g1 g2 g3))
        go_wp2
        go_roundw
        case rel => exact ⟨k + 1, by omega, by go_num, by rw [take_min_succ hlt hkn, List.map_append]; exact g1, Out.own ((((Hext.out.alloc _).drew.ext hx1).ext hx2).alloc _) g2 (fun k h => (Lt.out k h).1) (Nat.le_refl _)⟩
        case measure => simp [intOf]; omega
      · have Hown := Lib.hid hown'
        have Hext := Lib.hid hext
        clear hext hown hown'
        go_wp2
        go_roundw
        case rel => exact ⟨k + 1, by omega, by go_num, by rw [show min (k + 1) n = min k n from by omega]; exact Hown.out, Hext.out.alloc _⟩
        case measure => simp [intOf]; omega
    · go_wp2
      go_ret
      have hkl : l.take (min k n) = l.take n := by
        rcases Nat.le_total k n with h | h
        · rw [Nat.min_eq_left h, List.take_of_length_le (by omega), List.take_of_length_le (by omega)]
        · rw [Nat.min_eq_right h]
      rw [hkl] at hown
      exact ⟨_, rfl, hext, hown⟩
end Go.Proofs.Yteaanagljmcidaa
