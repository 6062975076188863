/- Few: the first entries, cut. · batch: CheckOp; ref04: CheckOp; memo: tall. batch: Check; ref04: Few. · What the glass claims take of the memo texts (MemoPl, MemoCDE, MemoAB), under the same names: for a claim that has none of those. Find among versions and spans, the map that ops make, in plain Lean. -/
import Derived.Test.YteaanagljmcidaaPkB
import Derived.Test.YteaanagljmcidaaPkA
namespace Go.Proofs.Yteaanagljmcidaa
open Go.RowKit

attribute [local go_sem ↓] Go.wp_at_zero Go.wp_at_succ

theorem r1_cutI (w : World) {F : Nat → Prop} {a : Value} {la : List UInt8} (ha : BsA w F a la) (n : Int) (m : Nat) (h : n = m) (hm : m ≤ 1000000) : Calls Try.prog 77 #[a, .int .i64 n] w (Copied w (la.take m)) := by
  subst h; exact r1_cut w ha m hm

/-- An entry, cut. -/
def cutE (e : Ent) : Ent := ⟨⟨e.key.user.take 80, e.key.seq, e.key.kind⟩, e.value.take 600⟩

theorem take_min_succ {α : Type} {l : List α} {k n : Nat} (h : k < l.length) (hn : k < n) : l.take (min (k + 1) n) = l.take (min k n) ++ [l[k]] := by
  rw [Nat.min_eq_left (by omega), Nat.min_eq_left (by omega), take_succ_get h]

theorem room_min {l : List Ent} {k n : Nat} (hn : n ≤ 1000) : (((l.take (min k n)).map cutE).length + 1) * 64 ≤ 140737488355328 := by
  have : ((l.take (min k n)).map cutE).length ≤ n := by rw [List.length_map, List.length_take]; omega
  omega

set_option maxRecDepth 100000 in
set_option maxHeartbeats 1000000 in
theorem r3_few (w : World) {F : Nat → Prop} {x : Value} (l : List Ent) (hx : Sl entCA w F x l) (n : Nat) (hn : n ≤ 1000) :
    Calls Try.prog 59 #[x, .int .i64 (n : Int)] w (Listed w ((l.take n).map cutE)) := by
  obtain ⟨A, cap, rfl, h1, h2, h3, h4⟩ := hx.form
  have h5 : l.length ≤ 9223372036854775807 := h3
  have Hx := Lib.hid hx
  clear h1 h2 h3 h4 hx
  go_enter Try.func59, Try.ntmps59
  go_wp2
  go_loopw [5, 10] (fun o i wr => ∃ k : Nat, k ≤ l.length ∧ i = .int .i64 k ∧ Own entC 32 wr w.heap.size (fun b => w.heap.size ≤ b) o ((l.take (min k n)).map cutE) ∧ Ext w wr) (fun _ i _ => l.length - (intOf i).toNat)
  case atStart => exact ⟨0, Nat.zero_le _, rfl, by rw [Nat.zero_min]; exact Own.nil _ _ _ _ _, Out.refl _ w⟩
  case round =>
    obtain ⟨k, hk, rfl, hown, hext⟩ := hrel
    by_cases hlt : k < l.length
    · obtain ⟨b1, o1, u1, v1, rfl, -, c0, c1, c2, c3, hu, hv⟩ := (Hx.out.ext hext).entAt k hlt
      obtain ⟨U, N1, n1, rfl⟩ := hu.form0
      obtain ⟨V, N2, n2, rfl⟩ := hv.form0
      have hsz := hext.size
      have hown' := hown.ext (Ext.alloc1 wr (.cells #[.slice U N1 n1, u64V l[k].key.seq, byteV l[k].key.kind, .slice V N2 n2] 32))
      by_cases hkn : k < n
      · have hu' := (hu.alloc (.cells #[.slice U N1 n1, u64V l[k].key.seq, byteV l[k].key.kind, .slice V N2 n2] 32)).drew
        have hv' := (hv.alloc (.cells #[.slice U N1 n1, u64V l[k].key.seq, byteV l[k].key.kind, .slice V N2 n2] 32)).drew
        obtain ⟨z0, z1, z2, z3, -⟩ := cells4 (blk_new wr (.cells #[.slice U N1 n1, u64V l[k].key.seq, byteV l[k].key.kind, .slice V N2 n2] 32))
        have Own' := Lib.hid hown'
        have Lt := Lib.hid hown'.lt
        have Sz := Lib.hid (le_alloc hsz (.cells #[.slice U N1 n1, u64V l[k].key.seq, byteV l[k].key.kind, .slice V N2 n2] 32))
        have Ne := Lib.hid hown.ne_new
        have Hext := Lib.hid hext
        clear hext hown hown'
        go_wp2
        go_region_held3 (fun w' => w'.cell? ⟨wr.heap.size, 0, none⟩ = some (.slice U N1 n1) ∧ w'.cell? ⟨wr.heap.size, 1, none⟩ = some (u64V l[k].key.seq) ∧ w'.cell? ⟨wr.heap.size, 2, none⟩ = some (byteV l[k].key.kind) ∧ w'.cell? ⟨wr.heap.size, 3, none⟩ = some (.slice V N2 n2)) (first | go_keep | (refine ⟨?_, ?_, ?_, ?_⟩ <;> exact hx1.cell (by assumption) (fun f => f)) | (refine ⟨?_, ?_, ?_, ?_⟩ <;> exact hx2.cell (hx1.cell (by assumption) (fun f => f)) (fun f => f)) | (refine ⟨?_, ?_, ?_, ?_⟩ <;> exact g2.cell (cell_alloc (hx2.cell (hx1.cell (by assumption) (fun f => f)) (fun f => f)) _) Ne.out))
          (first | (go_at_call 77; refine (r1_cutI _ (hv'.ext hx1) 600 600 rfl (by decide)).mono ?_; rintro x w2 ⟨x2, rfl, hx2, hb2⟩; obtain ⟨A2, k2, m2, rfl⟩ := hb2.form0) | (go_at_call 77; refine (r1_cutI _ hu' 80 80 rfl (by decide)).mono ?_; rintro x w1 ⟨x1, rfl, hx1, hb1⟩; obtain ⟨A1, k1, m1, rfl⟩ := hb1.form0) | (refine step_append_one (by rfl) (.tmp 18) (.tmp 34) 43 (by rfl) fits32 ((((Own'.out.ext (Out.refl _ _).drew).ext hx1).ext hx2).ext (Ext.alloc1 _ _)) (by rfl) (le_alloc (Nat.le_trans Sz.out (Nat.le_trans hx1.size hx2.size)) _) (blk_new _ _) (by rfl) (cutE l[k]) (ent_rep (e := cutE l[k]) ((hb1.ext hx2).alloc _) (hb2.alloc _) (fun b hb _ => fresh_ok Sz.out Lt.out hb) (fun b hb _ => fresh_ok Sz.out Lt.out (Nat.le_trans hx1.size hb))) (room_min hn) (by decide) ?_; intro v' w' g1 g2 g3))
        go_wp2
        go_roundw
        case rel => exact ⟨k + 1, by omega, by go_num, by rw [take_min_succ hlt hkn, List.map_append]; exact g1, Out.own ((((Hext.out.alloc _).drew.ext hx1).ext hx2).alloc _) g2 (fun k h => (Lt.out k h).1) (Nat.le_refl _)⟩
        case measure => simp [intOf]; omega
      · have Hown := Lib.hid hown'
        have Hext := Lib.hid hext
        clear hext hown hown'
        go_wp2
        go_roundw
        case rel => exact ⟨k + 1, by omega, by go_num, by rw [show min (k + 1) n = min k n from by omega]; exact Hown.out, Hext.out.alloc _⟩
        case measure => simp [intOf]; omega
    · go_wp2
      go_ret
      have hkl : l.take (min k n) = l.take n := by
        rcases Nat.le_total k n with h | h
        · rw [Nat.min_eq_left h, List.take_of_length_le (by omega), List.take_of_length_le (by omega)]
        · rw [Nat.min_eq_right h]
      rw [hkl] at hown
      exact ⟨_, rfl, hext, hown.sl (by decide) (by rw [List.length_map, List.length_take]; show _ ≤ 140737488355328; omega) (fun b hb _ => hb) (fun b hb _ => hb)⟩
end Go.Proofs.Yteaanagljmcidaa
namespace Go.Proofs.Yteaanagljmcidaa
open Go.RowKit

attribute [local go_sem ↓] Go.wp_at_zero Go.wp_at_succ

structure OpE where
  kind : UInt8
  key : List UInt8
  val : List UInt8
  deriving DecidableEq, Inhabited
def opC : Codec OpE where
  size := 3
  rep w F cs s := ∃ u v, cs = [byteV s.kind, u, v] ∧ Bs w F u s.key ∧ Bs w F v s.val
  len := fun ⟨_, _, h, _⟩ => by rw [h]; rfl
  one := fun ⟨u, v, h, hb, hc⟩ x hx => by
    rw [h] at hx; obtain ⟨A, cap, rfl, _⟩ := hb.form; obtain ⟨A', cap', rfl, _⟩ := hc.form
    simp only [List.mem_cons, List.not_mem_nil, or_false] at hx
    rcases hx with rfl | rfl | rfl <;> rfl
  frame := fun ⟨u, v, h, hb, hc⟩ hF => ⟨u, v, h, hb.frame hF, hc.frame hF⟩
  mono := fun ⟨u, v, h, hb, hc⟩ hF => ⟨u, v, h, hb.mono hF (.inl (by decide)), hc.mono hF (.inl (by decide))⟩
/-- An op's fault. -/
def ocheckI (kd a b : Nat) (q : Bool) : Int :=
  if kd ≠ 1 ∧ kd ≠ 2 ∧ kd ≠ 3 then 1 else if 64 < a ∨ kd = 2 ∧ 512 < b ∨ kd = 3 ∧ 64 < b then 3 else if a = 0 ∨ kd = 1 ∧ 0 < b ∨ kd = 3 ∧ q = false then 4 else 0
def ocheck (o : OpE) : Int := ocheckI o.kind.toNat o.key.length o.val.length (Op.bytesLess o.key o.val)

set_option maxRecDepth 100000 in
set_option maxHeartbeats 4000000 in
theorem batch_checkI (w : World) (U V : Option Addr) (kd a n b m : Nat) (q : Bool)
    (HL : Calls Try.prog 128 #[.slice U a n, .slice V b m] (w.alloc (.cells #[.int .u8 kd, .slice U a n, .slice V b m] 112)) fun e w' => e = .returned (.bool q) ∧ (w.alloc (.cells #[.int .u8 kd, .slice U a n, .slice V b m] 112)) = w') :
    Calls Try.prog 143 #[.agg #[.int .u8 kd, .slice U a n, .slice V b m]] w fun e w' => e = .returned (.int .i64 (ocheckI kd a b q)) ∧ Ext w w' := by
  obtain ⟨z0, z1, z2, -⟩ := cells3 (blk_new w (.cells #[.int .u8 kd, .slice U a n, .slice V b m] 112))
  have X1 := Lib.hid (Ext.alloc1 w (.cells #[.int .u8 kd, .slice U a n, .slice V b m] 112))
  have H := Lib.hid HL
  clear HL
  unfold ocheckI
  by_cases h1 : kd = 1
  · subst h1
    clear H
    go_enter Try.func143, Try.ntmps143
    go_wp2
    all_goals
      go_ret
      refine ⟨ret_of ?_, (by first | exact X1.out | exact Ext.alloc1 _ _ | exact Out.refl _ _)⟩
      (try simp only [beq_eq_false_iff_ne, ne_eq] at *) <;> (first | omega | ((repeat' split) <;> first | rfl | omega) | (simp <;> omega))
  by_cases h2 : kd = 2
  · subst h2
    clear H h1
    go_enter Try.func143, Try.ntmps143
    go_wp2
    all_goals
      go_ret
      refine ⟨ret_of ?_, (by first | exact X1.out | exact Ext.alloc1 _ _ | exact Out.refl _ _)⟩
      (try simp only [beq_iff_eq, beq_eq_false_iff_ne, ne_eq] at *) <;> (first | omega | ((repeat' split) <;> first | rfl | omega) | (simp <;> omega))
  by_cases h3 : kd = 3
  · subst h3
    clear h1 h2
    cases q
    all_goals
      go_enter Try.func143, Try.ntmps143
      go_wp2_with (go_at_call 128; refine H.out.mono ?_; rintro r w1 ⟨rfl, rfl⟩)
    all_goals
      go_ret
      refine ⟨ret_of ?_, (by first | exact X1.out | exact Ext.alloc1 _ _ | exact Out.refl _ _)⟩
      (try simp only [beq_iff_eq, beq_eq_false_iff_ne, ne_eq] at *) <;> (first | omega | ((repeat' split) <;> first | rfl | omega) | (simp <;> omega))
  · clear H
    go_enter Try.func143, Try.ntmps143
    go_wp2
    all_goals
      go_ret
      refine ⟨ret_of ?_, (by first | exact X1.out | exact Ext.alloc1 _ _ | exact Out.refl _ _)⟩
      (try simp only [beq_eq_false_iff_ne, ne_eq] at *) <;> (first | omega | ((repeat' split) <;> first | rfl | omega) | (simp <;> omega))
theorem batch_check1 (w : World) {F G : Nat → Prop} {u v : Value} (o : OpE) (hu : Bs w F u o.key) (hv : Bs w G v o.val) : Calls Try.prog 143 #[.agg #[byteV o.kind, u, v]] w fun e w' => e = .returned (.int .i64 (ocheck o)) ∧ Ext w w' := by
  obtain ⟨U, n, rfl, -⟩ := hu.form
  obtain ⟨V, m, rfl, -⟩ := hv.form
  exact batch_checkI w U V _ _ n _ m _ (atom_less _ (hu.alloc _) (hv.alloc _))

theorem memo_tall (w : World) (h : Int) : Calls Try.prog 144 #[.int .i64 h] w fun e w' => e = .returned (.bool (decide (1 ≤ h ∧ h ≤ 8))) ∧ w = w' := by
  go_enter Try.func144, Try.ntmps144
  go_wp2
  all_goals
    go_ret
    refine ⟨retb_of ?_, rfl⟩
    rw [Bool.eq_iff_iff]; simp; omega
end Go.Proofs.Yteaanagljmcidaa
namespace Go.Proofs.Yteaanagljmcidaa
open Go.RowKit

attribute [local go_sem ↓] Go.wp_at_zero Go.wp_at_succ

def opCA : Codec OpE where
  size := 3
  rep w F cs s := ∃ u v, cs = [byteV s.kind, u, v] ∧ BsA w F u s.key ∧ BsA w F v s.val
  len := fun ⟨_, _, h, _⟩ => by rw [h]; rfl
  one := fun ⟨u, v, h, hb, hc⟩ x hx => by
    rw [h] at hx; obtain ⟨A, cap, rfl, _⟩ := hb.form; obtain ⟨A', cap', rfl, _⟩ := hc.form
    simp only [List.mem_cons, List.not_mem_nil, or_false] at hx
    rcases hx with rfl | rfl | rfl <;> rfl
  frame := fun ⟨u, v, h, hb, hc⟩ hF => ⟨u, v, h, hb.frame hF, hc.frame hF⟩
  mono := fun ⟨u, v, h, hb, hc⟩ hF => ⟨u, v, h, hb.mono hF (.inl (by decide)), hc.mono hF (.inl (by decide))⟩
  bound := maxLen
  bpos := by decide
theorem fits112 : Fits Try.prog 101 112 opC.size 56 := fits_of Try.underlying101 (by decide) (by kernel_rfl : (Try.prog.info? 112).map (fun i => (i.zero, i.size, i.bytes)) = some (some (.agg #[.int .u8 0, .slice none 0 0, .slice none 0 0]), 3, 56)) rfl
theorem Sl.op {w : World} {F : Nat → Prop} {A : Option Addr} {n cap : Nat} {l : List OpE} (h : Sl opC w F (.slice A n cap) l) (i : Nat) (hi : i < l.length) :
    ∃ b off u v, A = some ⟨b, off, none⟩ ∧ F b ∧ w.cell? ⟨b, off + i * 3, none⟩ = some (byteV l[i].kind) ∧ w.cell? ⟨b, off + i * 3 + 1, none⟩ = some u ∧ w.cell? ⟨b, off + i * 3 + 2, none⟩ = some v ∧ Bs w F u l[i].key ∧ Bs w F v l[i].val := by
  obtain ⟨b, off, cs, hA, hF, hat, u, v, rfl, h1, h2⟩ := h.get i hi
  exact ⟨b, off, u, v, hA, hF, hat 0 _ rfl, hat 1 _ rfl, hat 2 _ rfl, h1, h2⟩
theorem Sl.opA {w : World} {F : Nat → Prop} {A : Option Addr} {n cap : Nat} {l : List OpE} (h : Sl opCA w F (.slice A n cap) l) (i : Nat) (hi : i < l.length) :
    ∃ b off u v, A = some ⟨b, off, none⟩ ∧ F b ∧ w.cell? ⟨b, off + i * 3, none⟩ = some (byteV l[i].kind) ∧ w.cell? ⟨b, off + i * 3 + 1, none⟩ = some u ∧ w.cell? ⟨b, off + i * 3 + 2, none⟩ = some v ∧ BsA w F u l[i].key ∧ BsA w F v l[i].val := by
  obtain ⟨b, off, cs, hA, hF, hat, u, v, rfl, h1, h2⟩ := h.get i hi
  exact ⟨b, off, u, v, hA, hF, hat 0 _ rfl, hat 1 _ rfl, hat 2 _ rfl, h1, h2⟩
theorem op_rep {w : World} {F G H : Nat → Prop} {u v : Value} {e : OpE} (hu : Bs w F u e.key) (hv : Bs w G v e.val) (hF : ∀ b, F b → b < w.heap.size → H b) (hG : ∀ b, G b → b < w.heap.size → H b) :
    opC.rep w H [byteV e.kind, u, v] e := ⟨u, v, rfl, hu.mono hF (.inl (by decide)), hv.mono hG (.inl (by decide))⟩

/-- A batch's fault. -/
def bcheckL : List OpE → Int
  | [] => 0
  | o :: l => if ocheck o ≠ 0 then ocheck o else bcheckL l
def bcheck (l : List OpE) : Int := if 64 < l.length then 3 else bcheckL l
theorem bcheckL_at : ∀ {l : List OpE} {i : Nat} (hi : i < l.length), (∀ j (_ : j < i) (hj : j < l.length), ocheck l[j] = 0) → ocheck l[i] ≠ 0 → bcheckL l = ocheck l[i]
  | [], _, hi, _, _ => absurd hi (by simp)
  | o :: l, 0, _, _, h => by unfold bcheckL; exact if_pos h
  | o :: l, i + 1, hi, hp, h => by
    have h0 := hp 0 (by omega) (by simp)
    unfold bcheckL
    rw [if_neg (by simpa using h0)]
    exact bcheckL_at (l := l) (i := i) (by simpa using hi) (fun j hj hjl => by have := hp (j + 1) (by omega) (by simp; omega); simpa using this) h
theorem bcheckL_all : ∀ {l : List OpE}, (∀ j (hj : j < l.length), ocheck l[j] = 0) → bcheckL l = 0
  | [], _ => rfl
  | o :: l, hp => by
    have h0 := hp 0 (by simp)
    unfold bcheckL
    rw [if_neg (by simpa using h0)]
    exact bcheckL_all fun j hj => by have := hp (j + 1) (by simp; omega); simpa using this
theorem bcheckL_ok : ∀ {l : List OpE}, bcheckL l = 0 → ∀ o ∈ l, ocheck o = 0
  | [], _, o, ho => by cases ho
  | o :: l, h, x, hx => by
    unfold bcheckL at h
    split at h
    · rename_i hc; exact absurd h hc
    · rename_i hc
      rcases List.mem_cons.1 hx with rfl | hx
      · simpa using hc
      · exact bcheckL_ok h x hx

set_option maxRecDepth 100000 in
set_option maxHeartbeats 2000000 in
theorem batch_check (w : World) {F : Nat → Prop} {v : Value} (l : List OpE) (hv : Sl opC w F v l) : Calls Try.prog 146 #[v] w fun e w' => e = .returned (.int .i64 (bcheck l)) ∧ Ext w w' := by
  obtain ⟨A, cap, rfl, h1, h2, h3, h4⟩ := hv.form
  have h5 : l.length ≤ 140737488355328 := h3
  have Hv := Lib.hid hv
  clear h1 h2 h3 h4 hv
  unfold bcheck
  by_cases hl : 64 < l.length
  · rw [if_pos hl]
    go_enter Try.func146, Try.ntmps146
    go_wp2
    go_ret
    exact ⟨rfl, Out.refl _ _⟩
  rw [if_neg hl]
  have hl' : l.length ≤ 64 := by omega
  clear hl
  go_enter Try.func146, Try.ntmps146
  go_wp2
  go_loopw [11] (fun s wr => ∃ i : Nat, i ≤ l.length ∧ s = .int .i64 i ∧ Ext w wr ∧ (∀ j (_ : j < i) (hj : j < l.length), ocheck l[j] = 0)) (fun s _ => l.length - (intOf s).toNat)
  case atStart => exact ⟨0, Nat.zero_le _, rfl, Out.refl _ _, fun j hj => absurd hj (by omega)⟩
  case round =>
    obtain ⟨i, hi, rfl, hxi, hall⟩ := hrel
    have HX := Lib.hid hxi
    have Hall := Lib.hid hall
    clear hxi hall
    by_cases hlt : i < l.length
    · obtain ⟨b, off, u, x, rfl, -, c0, c1, c2, hu, hx⟩ := (Hv.out.ext HX.out).op i hlt
      obtain ⟨U, N1, n1, rfl⟩ := hu.form0
      obtain ⟨X, N2, n2, rfl⟩ := hx.form0
      have x1 := Ext.alloc1 wr (.cells #[byteV l[i].kind, .slice U N1 n1, .slice X N2 n2] 112)
      obtain ⟨z0, z1, z2, -⟩ := cells3 (blk_new wr (.cells #[byteV l[i].kind, .slice U N1 n1, .slice X N2 n2] 112))
      have HC := Lib.hid (batch_check1 (wr.alloc (.cells #[byteV l[i].kind, .slice U N1 n1, .slice X N2 n2] 112)) l[i] (hu.ext x1) (hx.ext x1))
      have X1 := Lib.hid (HX.out.ext x1)
      have Hat := Lib.hid (bcheckL_at hlt Hall.out)
      clear hu hx x1
      obtain ⟨c, hc⟩ : ∃ c, ocheck l[i] = c := ⟨_, rfl⟩
      rw [hc] at HC Hat
      have Hc := Lib.hid hc
      clear hc
      by_cases h0 : c = 0
      · subst h0
        go_wp2_with (go_at_call 143; refine HC.out.mono ?_; rintro r w1 ⟨rfl, hx1⟩)
        go_roundw
        case rel => exact ⟨i + 1, by omega, by go_num, X1.out.ext hx1, fun j hj hjl => by
          rcases Nat.lt_or_ge j i with h | h
          · exact Hall.out j h hjl
          · obtain rfl : j = i := by omega
            exact Hc.out⟩
        case measure => simp [intOf]; omega
      · have hcb : (c != 0) = true := by simpa using h0
        have He := Lib.hid (Hat.out h0)
        clear h0 Hat
        go_wp2_with (go_at_call 143; refine HC.out.mono ?_; rintro r w1 ⟨rfl, hx1⟩)
        go_ret
        exact ⟨ret_of He.out.symm, X1.out.ext hx1⟩
    · obtain rfl : i = l.length := by omega
      go_wp2
      go_ret
      exact ⟨ret_of (bcheckL_all fun j hj => Hall.out j hj hj).symm, HX.out⟩

def cutO (o : OpE) : OpE := ⟨o.kind, o.key.take 80, o.val.take 600⟩
theorem room_minO {l : List OpE} {k n : Nat} (hn : n ≤ 1000) : (((l.take (min k n)).map cutO).length + 1) * 56 ≤ 140737488355328 := by
  have : ((l.take (min k n)).map cutO).length ≤ n := by rw [List.length_map, List.length_take]; omega
  omega

set_option maxRecDepth 100000 in
set_option maxHeartbeats 1000000 in
theorem r4_few (w : World) {F : Nat → Prop} {x : Value} (l : List OpE) (hx : Sl opCA w F x l) (n : Nat) (hn : n ≤ 1000) :
    Calls Try.prog 83 #[x, .int .i64 (n : Int)] w (OwnedM opC 112 w ((l.take n).map cutO)) := by
  obtain ⟨A, cap, rfl, h1, h2, h3, h4⟩ := hx.form
  have h5 : l.length ≤ 9223372036854775807 := h3
  have Hx := Lib.hid hx
  clear h1 h2 h3 h4 hx
  go_enter Try.func83, Try.ntmps83
  go_wp2
  go_loopw [5, 10] (fun o i wr => ∃ k : Nat, k ≤ l.length ∧ i = .int .i64 k ∧ Own opC 112 wr w.heap.size (fun b => w.heap.size ≤ b) o ((l.take (min k n)).map cutO) ∧ Ext w wr) (fun _ i _ => l.length - (intOf i).toNat)
  case atStart => exact ⟨0, Nat.zero_le _, rfl, by rw [Nat.zero_min]; exact Own.nil _ _ _ _ _, Out.refl _ w⟩
  case round =>
    obtain ⟨k, hk, rfl, hown, hext⟩ := hrel
    by_cases hlt : k < l.length
    · obtain ⟨b1, o1, u1, v1, rfl, -, c0, c1, c2, hu, hv⟩ := (Hx.out.ext hext).opA k hlt
      obtain ⟨U, N1, n1, rfl⟩ := hu.form0
      obtain ⟨V, N2, n2, rfl⟩ := hv.form0
      have hsz := hext.size
      have hown' := hown.ext (Ext.alloc1 wr (.cells #[byteV l[k].kind, .slice U N1 n1, .slice V N2 n2] 112))
      by_cases hkn : k < n
      · have hu' := (hu.alloc (.cells #[byteV l[k].kind, .slice U N1 n1, .slice V N2 n2] 112)).drew
        have hv' := (hv.alloc (.cells #[byteV l[k].kind, .slice U N1 n1, .slice V N2 n2] 112)).drew
        obtain ⟨z0, z1, z2, -⟩ := cells3 (blk_new wr (.cells #[byteV l[k].kind, .slice U N1 n1, .slice V N2 n2] 112))
        have Own' := Lib.hid hown'
        have Lt := Lib.hid hown'.lt
        have Sz := Lib.hid (le_alloc hsz (.cells #[byteV l[k].kind, .slice U N1 n1, .slice V N2 n2] 112))
        have Ne := Lib.hid hown.ne_new
        have Hext := Lib.hid hext
        clear hext hown hown'
        go_wp2
        go_region_held3 (fun w' => w'.cell? ⟨wr.heap.size, 0, none⟩ = some (byteV l[k].kind) ∧ w'.cell? ⟨wr.heap.size, 1, none⟩ = some (.slice U N1 n1) ∧ w'.cell? ⟨wr.heap.size, 2, none⟩ = some (.slice V N2 n2)) (first | go_keep | (refine ⟨?_, ?_, ?_⟩ <;> exact hx1.cell (by assumption) (fun f => f)) | (refine ⟨?_, ?_, ?_⟩ <;> exact hx2.cell (hx1.cell (by assumption) (fun f => f)) (fun f => f)) | (refine ⟨?_, ?_, ?_⟩ <;> exact g2.cell (cell_alloc (hx2.cell (hx1.cell (by assumption) (fun f => f)) (fun f => f)) _) Ne.out))
          (first | (go_at_call 77; refine (r1_cutI _ (hv'.ext hx1) 600 600 rfl (by decide)).mono ?_; rintro x w2 ⟨x2, rfl, hx2, hb2⟩; obtain ⟨A2, k2, m2, rfl⟩ := hb2.form0) | (go_at_call 77; refine (r1_cutI _ hu' 80 80 rfl (by decide)).mono ?_; rintro x w1 ⟨x1, rfl, hx1, hb1⟩; obtain ⟨A1, k1, m1, rfl⟩ := hb1.form0) | (refine step_append_one (by rfl) (.tmp 18) (.tmp 28) 101 (by rfl) fits112 ((((Own'.out.ext (Out.refl _ _).drew).ext hx1).ext hx2).ext (Ext.alloc1 _ _)) (by rfl) (le_alloc (Nat.le_trans Sz.out (Nat.le_trans hx1.size hx2.size)) _) (blk_new _ _) (by rfl) (cutO l[k]) (op_rep (e := cutO l[k]) ((hb1.ext hx2).alloc _) (hb2.alloc _) (fun b hb _ => fresh_ok Sz.out Lt.out hb) (fun b hb _ => fresh_ok Sz.out Lt.out (Nat.le_trans hx1.size hb))) (room_minO hn) (by decide) ?_; intro v' w' g1 g2 g3))
        go_wp2
        go_roundw
        case rel => exact ⟨k + 1, by omega, by go_num, by rw [take_min_succ hlt hkn, List.map_append]; exact g1, Out.own ((((Hext.out.alloc _).drew.ext hx1).ext hx2).alloc _) g2 (fun k h => (Lt.out k h).1) (Nat.le_refl _)⟩
        case measure => simp [intOf]; omega
      · have Hown := Lib.hid hown'
        have Hext := Lib.hid hext
        clear hext hown hown'
        go_wp2
        go_roundw
        case rel => exact ⟨k + 1, by omega, by go_num, by rw [show min (k + 1) n = min k n from by omega]; exact Hown.out, Hext.out.alloc _⟩
        case measure => simp [intOf]; omega
    · go_wp2
      go_ret
      have hkl : l.take (min k n) = l.take n := by
        rcases Nat.le_total k n with h | h
        · rw [Nat.min_eq_left h, List.take_of_length_le (by omega), List.take_of_length_le (by omega)]
        · rw [Nat.min_eq_right h]
      rw [hkl] at hown
      exact ⟨_, rfl, hext, hown⟩
end Go.Proofs.Yteaanagljmcidaa
namespace Go.Proofs.Yteaanagljmcidaa
open Go.RowKit

/-! ### Find -/
def findStep (key : List UInt8) (q : Nat) (a : Nat × List UInt8 × Int) (e : Ent) : Nat × List UInt8 × Int :=
  if e.key.user = key ∧ e.key.seq.toNat ≤ q ∧ (a.2.2 = 0 ∨ a.1 < e.key.seq.toNat) then (e.key.seq.toNat, if e.key.kind.toNat = 1 then ([], 2) else (e.value, 1)) else a
def findF (E : List Ent) (key : List UInt8) (q : Nat) : Nat × List UInt8 × Int := E.foldl (findStep key q) (0, [], 0)
theorem findF_succ {l : List Ent} {i : Nat} (hi : i < l.length) (key : List UInt8) (q : Nat) : findF (l.take (i + 1)) key q = findStep key q (findF (l.take i) key q) l[i] := by
  unfold findF
  rw [List.take_succ_eq_append_getElem hi, List.foldl_append]; rfl
/-- What is found among versions and spans. -/
def findE (E : List Ent) (L : List SpanE) (key : List UInt8) (q : Nat) : List UInt8 × Int :=
  if (findF E key q).1 < coverE L key q ∨ 0 < coverE L key q ∧ (findF E key q).2.2 = 0 then ([], 2) else (findF E key q).2
def fitsK (key : List UInt8) (q : Nat) (e : Ent) : Bool := decide (e.key.user = key ∧ e.key.seq.toNat ≤ q)
def tellF : Option Ent → Nat × List UInt8 × Int
  | none => (0, [], 0)
  | some e => (e.key.seq.toNat, if e.key.kind.toNat = 1 then ([], 2) else (e.value, 1))
theorem findStep_keep {key : List UInt8} {q : Nat} {a : Nat × List UInt8 × Int} {e : Ent} (h : fitsK key q e = true → a.2.2 ≠ 0 ∧ e.key.seq.toNat ≤ a.1) : findStep key q a e = a := by
  unfold findStep
  rw [if_neg]
  rintro ⟨h1, h2, h3⟩
  obtain ⟨h4, h5⟩ := h (by simp [fitsK, h1, h2])
  rcases h3 with h3 | h3
  · exact h4 h3
  · omega
theorem foldl_keep {key : List UInt8} {q : Nat} {a : Nat × List UInt8 × Int} : ∀ {l : List Ent}, (∀ e ∈ l, fitsK key q e = true → a.2.2 ≠ 0 ∧ e.key.seq.toNat ≤ a.1) → l.foldl (findStep key q) a = a
  | [], _ => rfl
  | e :: l, h => by
    rw [List.foldl_cons, findStep_keep (h e List.mem_cons_self)]
    exact foldl_keep fun y hy => h y (List.mem_cons_of_mem _ hy)
theorem findF_sorted {E : List Ent} (h : SortedE E) (key : List UInt8) (q : Nat) : findF E key q = tellF (E.find? (fitsK key q)) := by
  unfold findF
  cases hf : E.find? (fitsK key q) with
  | none => exact foldl_keep fun e he h1 => absurd h1 (List.find?_eq_none.1 hf e he)
  | some e =>
    rw [List.find?_eq_some_iff_append] at hf
    obtain ⟨h1, a, b, rfl, ha⟩ := hf
    obtain ⟨hu, hs⟩ : e.key.user = key ∧ e.key.seq.toNat ≤ q := by simpa [fitsK] using h1
    have hka : a.foldl (findStep key q) (0, [], 0) = (0, [], 0) := foldl_keep fun y hy h2 => absurd h2 (by simpa using ha y hy)
    rw [List.foldl_append, hka, List.foldl_cons]
    have hst : findStep key q (0, [], 0) e = tellF (some e) := by
      unfold findStep tellF
      rw [if_pos ⟨hu, hs, .inl rfl⟩]
    rw [hst]
    refine foldl_keep fun y hy h2 => ⟨?_, ?_⟩
    · unfold tellF; simp only; split <;> simp
    · have h3 := (List.pairwise_cons.1 (List.pairwise_append.1 h).2.1).1 y hy
      obtain ⟨hyu, -⟩ : y.key.user = key ∧ y.key.seq.toNat ≤ q := by simpa [fitsK] using h2
      rw [kcmp_neg] at h3
      show y.key.seq.toNat ≤ e.key.seq.toNat
      rcases h3 with h3 | ⟨-, h3 | ⟨h3, -⟩⟩
      · rw [hu, hyu, (bcmp_zero key key).2 rfl] at h3; omega
      · omega
      · have := congrArg UInt64.toNat h3; omega
theorem find_is {E : List Ent} (h : SortedE E) {key : List UInt8} {q : Nat} {e : Ent} (he : e ∈ E) (hf : fitsK key q e = true) (hl : ∀ y ∈ E, fitsK key q y = true → y = e ∨ y.key.seq.toNat < e.key.seq.toNat) : E.find? (fitsK key q) = some e := by
  obtain ⟨a, b, rfl⟩ := List.append_of_mem he
  rw [List.find?_eq_some_iff_append]
  refine ⟨hf, a, b, rfl, fun y hy => ?_⟩
  have h1 := (List.pairwise_append.1 h).2.2 y hy e List.mem_cons_self
  cases hfy : fitsK key q y with
  | false => rfl
  | true =>
    exfalso
    obtain ⟨hu, -⟩ : e.key.user = key ∧ e.key.seq.toNat ≤ q := by simpa [fitsK] using hf
    obtain ⟨hyu, -⟩ : y.key.user = key ∧ y.key.seq.toNat ≤ q := by simpa [fitsK] using hfy
    rcases hl y (List.mem_append_left _ hy) hfy with rfl | h2
    · exact kcmp_irrefl _ h1
    · exact kcmp_irrefl _ (kcmp_trans h1 (kcmp_neg.2 (.inr ⟨by rw [hu, hyu], .inl h2⟩)))

end Go.Proofs.Yteaanagljmcidaa
namespace Go.Proofs.Yteaanagljmcidaa

def coversO (o : OpE) (key : List UInt8) : Bool := if o.kind.toNat = 3 then coversB ⟨o.key, o.val, 0⟩ key else o.key == key
/-! ### the map -/
structure PairE where
  key : List UInt8
  val : List UInt8
  deriving DecidableEq, Inhabited
def newP (o : OpE) : PairE := ⟨o.key, o.val⟩
def applyStep (o : OpE) (a : List PairE × Bool) (x : PairE) : List PairE × Bool :=
  let b := if a.2 = false ∧ Op.bytesLess o.key x.key = true then (a.1 ++ [newP o], true) else a
  if coversO o x.key = true then b else (b.1 ++ [x], b.2)
def applyF (o : OpE) (m : List PairE) : List PairE × Bool := m.foldl (applyStep o) ([], decide (o.kind.toNat ≠ 2))
theorem applyF_succ {l : List PairE} {i : Nat} (hi : i < l.length) (o : OpE) : applyF o (l.take (i + 1)) = applyStep o (applyF o (l.take i)) l[i] := by
  unfold applyF
  rw [List.take_succ_eq_append_getElem hi, List.foldl_append]; rfl
/-- What a map is behind an op. -/
def applyE (m : List PairE) (o : OpE) : List PairE := if (applyF o m).2 = true then (applyF o m).1 else (applyF o m).1 ++ [newP o]
def applyAllE (m : List PairE) (l : List OpE) : List PairE := l.foldl applyE m
theorem applyAllE_succ {l : List OpE} {i : Nat} (hi : i < l.length) (m : List PairE) : applyAllE m (l.take (i + 1)) = applyE (applyAllE m (l.take i)) l[i] := by
  unfold applyAllE
  rw [List.take_succ_eq_append_getElem hi, List.foldl_append]; rfl
theorem applyStep_length (o : OpE) (a : List PairE × Bool) (x : PairE) : (applyStep o a x).1.length + (if (applyStep o a x).2 then 0 else 1) ≤ a.1.length + (if a.2 then 0 else 1) + 1 := by
  unfold applyStep
  obtain ⟨a1, a2⟩ := a
  cases a2 <;> cases Op.bytesLess o.key x.key <;> cases coversO o x.key <;> simp
theorem applyF_length (o : OpE) : ∀ (m : List PairE) (a : List PairE × Bool), (m.foldl (applyStep o) a).1.length + (if (m.foldl (applyStep o) a).2 then 0 else 1) ≤ a.1.length + (if a.2 then 0 else 1) + m.length
  | [], _ => Nat.le_refl _
  | x :: m, a => by
    have h1 := applyF_length o m (applyStep o a x)
    have h2 := applyStep_length o a x
    rw [List.foldl_cons, List.length_cons]
    omega
theorem applyE_length (m : List PairE) (o : OpE) : (applyE m o).length ≤ m.length + 1 := by
  have h := applyF_length o m ([], decide (o.kind.toNat ≠ 2))
  unfold applyE
  have h0 : ([] : List PairE).length = 0 := rfl
  change (applyF o m).1.length + _ ≤ _ at h
  have h3 : (if (decide (o.kind.toNat ≠ 2)) = true then 0 else 1) ≤ 1 := by split <;> omega
  simp only [h0] at h
  split
  · omega
  · rename_i hn
    change (applyF o m).1.length + (if (applyF o m).2 = true then 0 else 1) ≤ _ at h
    rw [if_neg hn] at h
    rw [List.length_append, List.length_singleton]; omega
theorem applyAllE_length : ∀ (l : List OpE) (m : List PairE), (applyAllE m l).length ≤ m.length + l.length
  | [], m => by simp [applyAllE]
  | o :: l, m => by
    have h1 := applyAllE_length l (applyE m o)
    have h2 := applyE_length m o
    show (applyAllE (applyE m o) l).length ≤ _
    rw [List.length_cons]; omega

theorem mem_applyF (o : OpE) (p : PairE) : ∀ (m : List PairE) (a : List PairE × Bool), (a.2 = true → (m.foldl (applyStep o) a).2 = true) ∧
    (p ∈ (m.foldl (applyStep o) a).1 ↔ p ∈ a.1 ∨ (p ∈ m ∧ coversO o p.key = false) ∨ (p = newP o ∧ a.2 = false ∧ (m.foldl (applyStep o) a).2 = true))
  | [], a => by
    refine ⟨id, ?_⟩
    simp only [List.foldl_nil, List.not_mem_nil, false_and, false_or]
    constructor
    · exact .inl
    · rintro (h | ⟨-, h1, h2⟩)
      · exact h
      · rw [h1] at h2; cases h2
  | x :: m, a => by
    obtain ⟨h1, h2⟩ := mem_applyF o p m (applyStep o a x)
    rw [List.foldl_cons]
    generalize hr : m.foldl (applyStep o) (applyStep o a x) = r at *
    have hcase : (applyStep o a x = if coversO o x.key = true then a else (a.1 ++ [x], a.2)) ∨ (a.2 = false ∧ applyStep o a x = if coversO o x.key = true then (a.1 ++ [newP o], true) else (a.1 ++ [newP o] ++ [x], true)) := by
      unfold applyStep
      by_cases hc : a.2 = false ∧ Op.bytesLess o.key x.key = true
      · right; refine ⟨hc.1, ?_⟩; simp only [if_pos hc]
      · left; simp only [if_neg hc]
    rcases hcase with hs | ⟨ha, hs⟩
    · rw [hs] at h1 h2
      by_cases hc : coversO o x.key = true
      · rw [if_pos hc] at h1 h2
        refine ⟨h1, h2.trans ?_⟩
        rw [List.mem_cons]
        constructor
        · rintro (h | ⟨h, h'⟩ | h)
          · exact .inl h
          · exact .inr (.inl ⟨.inr h, h'⟩)
          · exact .inr (.inr h)
        · rintro (h | ⟨rfl | h, h'⟩ | h)
          · exact .inl h
          · rw [hc] at h'; cases h'
          · exact .inr (.inl ⟨h, h'⟩)
          · exact .inr (.inr h)
      · rw [if_neg hc] at h1 h2
        refine ⟨h1, h2.trans ?_⟩
        rw [List.mem_cons, List.mem_append, List.mem_singleton]
        constructor
        · rintro ((h | rfl) | ⟨h, h'⟩ | h)
          · exact .inl h
          · exact .inr (.inl ⟨.inl rfl, by simpa using hc⟩)
          · exact .inr (.inl ⟨.inr h, h'⟩)
          · exact .inr (.inr h)
        · rintro (h | ⟨rfl | h, h'⟩ | h)
          · exact .inl (.inl h)
          · exact .inl (.inr rfl)
          · exact .inr (.inl ⟨h, h'⟩)
          · exact .inr (.inr h)
    · rw [hs] at h1 h2
      by_cases hc : coversO o x.key = true
      · rw [if_pos hc] at h1 h2
        have h3 := h1 rfl
        refine ⟨fun _ => h3, h2.trans ?_⟩
        rw [List.mem_cons, List.mem_append, List.mem_singleton]
        constructor
        · rintro ((h | h) | ⟨h, h'⟩ | ⟨-, h, -⟩)
          · exact .inl h
          · exact .inr (.inr ⟨h, ha, h3⟩)
          · exact .inr (.inl ⟨.inr h, h'⟩)
          · cases h
        · rintro (h | ⟨rfl | h, h'⟩ | ⟨h, -⟩)
          · exact .inl (.inl h)
          · rw [hc] at h'; cases h'
          · exact .inr (.inl ⟨h, h'⟩)
          · exact .inl (.inr h)
      · rw [if_neg hc] at h1 h2
        have h3 := h1 rfl
        refine ⟨fun _ => h3, h2.trans ?_⟩
        rw [List.mem_cons, List.mem_append, List.mem_append, List.mem_singleton, List.mem_singleton]
        constructor
        · rintro (((h | h) | rfl) | ⟨h, h'⟩ | ⟨-, h, -⟩)
          · exact .inl h
          · exact .inr (.inr ⟨h, ha, h3⟩)
          · exact .inr (.inl ⟨.inl rfl, by simpa using hc⟩)
          · exact .inr (.inl ⟨.inr h, h'⟩)
          · cases h
        · rintro (h | ⟨rfl | h, h'⟩ | ⟨h, -⟩)
          · exact .inl (.inl (.inl h))
          · exact .inl (.inr rfl)
          · exact .inr (.inl ⟨h, h'⟩)
          · exact .inl (.inl (.inr h))
theorem mem_applyE {m : List PairE} {o : OpE} {p : PairE} : p ∈ applyE m o ↔ (p = newP o ∧ o.kind.toNat = 2) ∨ (p ∈ m ∧ coversO o p.key = false) := by
  obtain ⟨h1, h2⟩ := mem_applyF o p m ([], decide (o.kind.toNat ≠ 2))
  change _ → (applyF o m).2 = true at h1
  change p ∈ (applyF o m).1 ↔ _ ∨ _ ∨ (p = newP o ∧ _ ∧ (applyF o m).2 = true) at h2
  unfold applyE
  simp only [List.not_mem_nil, false_or, decide_eq_false_iff_not, Decidable.not_not, decide_eq_true_eq] at h1 h2
  split
  · rename_i hd
    rw [h2]
    constructor
    · rintro (h | ⟨h, h', -⟩)
      · exact .inr h
      · exact .inl ⟨h, h'⟩
    · rintro (⟨h, h'⟩ | h)
      · exact .inr ⟨h, h', hd⟩
      · exact .inl h
  · rename_i hd
    rw [List.mem_append, List.mem_singleton, h2]
    have hk : o.kind.toNat = 2 := Decidable.byContradiction fun hk => hd (h1 hk)
    constructor
    · rintro ((h | ⟨-, -, h⟩) | h)
      · exact .inr h
      · exact absurd h hd
      · exact .inl ⟨h, hk⟩
    · rintro (⟨h, -⟩ | h)
      · exact .inr h
      · exact .inl (.inl h)

theorem coverE_append (a b : List SpanE) (k : List UInt8) (q : Nat) : coverE (a ++ b) k q = b.foldl (coverStep k q) (coverE a k q) := List.foldl_append ..
theorem coverE_lt {k : List UInt8} {q n : Nat} (hn : 0 < n) : ∀ {l : List SpanE}, (∀ s ∈ l, s.seq.toNat ≤ q → coversB s k = true → s.seq.toNat < n) → coverE l k q < n := by
  intro l
  unfold coverE
  suffices ∀ (l : List SpanE) (c : Nat), c < n → (∀ s ∈ l, s.seq.toNat ≤ q → coversB s k = true → s.seq.toNat < n) → l.foldl (coverStep k q) c < n from this l 0 hn
  intro l
  induction l with
  | nil => intro c hc _; exact hc
  | cons s l ih =>
    intro c hc h
    rw [List.foldl_cons]
    refine ih _ ?_ fun y hy => h y (List.mem_cons_of_mem _ hy)
    unfold coverStep
    split
    · rename_i hs
      have := h s List.mem_cons_self hs.1 hs.2
      omega
    · exact hc
theorem coverE_ge {k : List UInt8} {q : Nat} : ∀ {l : List SpanE} {s : SpanE}, s ∈ l → s.seq.toNat ≤ q → coversB s k = true → s.seq.toNat ≤ coverE l k q := by
  intro l
  unfold coverE
  have mono : ∀ (l : List SpanE) (c : Nat), c ≤ l.foldl (coverStep k q) c := by
    intro l
    induction l with
    | nil => intro c; exact Nat.le_refl _
    | cons s l ih =>
      intro c
      rw [List.foldl_cons]
      refine Nat.le_trans ?_ (ih _)
      unfold coverStep; split <;> omega
  suffices ∀ (l : List SpanE) (c : Nat) (s : SpanE), s ∈ l → s.seq.toNat ≤ q → coversB s k = true → s.seq.toNat ≤ l.foldl (coverStep k q) c from fun {s} h => this l 0 s h
  intro l
  induction l with
  | nil => intro c s hs; cases hs
  | cons y l ih =>
    intro c s hs h1 h2
    rw [List.foldl_cons]
    rcases List.mem_cons.1 hs with rfl | hs
    · refine Nat.le_trans ?_ (mono l _)
      unfold coverStep; rw [if_pos ⟨h1, h2⟩]; omega
    · exact ih _ s hs h1 h2
def Got (w : World) (g : List UInt8 × Int) (x : Ending) (w' : World) : Prop := ∃ v, x = .returned (.tuple #[v, .int .i64 g.2]) ∧ Ext w w' ∧ Bs w' (fun b => w.heap.size ≤ b) v g.1
theorem got_of {w w' : World} {g g' : List UInt8 × Int} {v : Value} (h : g' = g) (hx : Ext w w') (hv : Bs w' (fun b => w.heap.size ≤ b) v g.1) : Got w g' (.returned (.tuple #[v, .int .i64 g.2])) w' := by subst h; exact ⟨v, rfl, hx, hv⟩
theorem Tb.mono {w : World} {F G : Nat → Prop} {T : Nat} {v : Value} {l : List SpanE} (h : Tb w F T v l) (hG : ∀ b, F b → b < w.heap.size → G b) (hT : ¬ G T) : Tb w G T v l := ⟨h.blk, h.own.mono hG, h.ne, hT⟩
theorem r3_sameEq (w : World) {F G : Nat → Prop} {x y : Value} (a : List Ent) (hx : Sl entC w F x a) (hy : Sl entC w G y a) :
    Calls Try.prog 32 #[x, y] w fun e w' => e = .returned (.bool true) ∧ Ext w w' := by
  have := r3_sameEntries w a a hx hy
  rwa [decide_eq_true rfl] at this
end Go.Proofs.Yteaanagljmcidaa
