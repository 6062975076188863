/- Few: the first entries, cut. -/
import Derived.Test.YteaanagljmcidaaLists
import Derived.Test.YteaanagljmcidaaMem2
namespace Go.Proofs.Yteaanagljmcidaa
open Go.RowKit

attribute [local go_sem ↓] Go.wp_at_zero Go.wp_at_succ

theorem r1_cutI (w : World) {F : Nat → Prop} {a : Value} {la : List UInt8} (ha : BsA w F a la) (n : Int) (m : Nat) (h : n = m) (hm : m ≤ 1000000) : Calls Try.prog 77 #[a, .int .i64 n] w (Copied w (la.take m)) := by
  subst h; exact r1_cut w ha m hm

/-- An entry, cut. -/
def cutE (e : Ent) : Ent := ⟨⟨e.key.user.take 80, e.key.seq, e.key.kind⟩, e.value.take 600⟩

theorem take_min_succ {α : Type} {l : List α} {k n : Nat} (h : k < l.length) (hn : k < n) : l.take (min (k + 1) n) = l.take (min k n) ++ [l[k]] := by
  rw [Nat.min_eq_left (by omega), Nat.min_eq_left (by omega), take_succ_get h]

theorem room_min {l : List Ent} {k n : Nat} (hn : n ≤ 1000) : (((l.take (min k n)).map cutE).length + 1) * 64 ≤ 140737488355328 := by
  have : ((l.take (min k n)).map cutE).length ≤ n := by rw [List.length_map, List.length_take]; omega
  omega

set_option maxRecDepth 100000 in
set_option maxHeartbeats 1000000 in
theorem r3_few (w : World) {F : Nat → Prop} {x : Value} (l : List Ent) (hx : Sl entCA w F x l) (n : Nat) (hn : n ≤ 1000) :
    Calls Try.prog 59 #[x, .int .i64 (n : Int)] w (Listed w ((l.take n).map cutE)) := by
  obtain ⟨A, cap, rfl, h1, h2, h3, h4⟩ := hx.form
  have h5 : l.length ≤ 9223372036854775807 := h3
  have Hx := Lib.hid hx
  clear h1 h2 h3 h4 hx
  go_enter Try.func59, Try.ntmps59
  go_wp2
  go_loopw [5, 10] (fun o i wr => ∃ k : Nat, k ≤ l.length ∧ i = .int .i64 k ∧ Own entC 32 wr w.heap.size (fun b => w.heap.size ≤ b) o ((l.take (min k n)).map cutE) ∧ Ext w wr) (fun _ i _ => l.length - (intOf i).toNat)
  case atStart => exact ⟨0, Nat.zero_le _, rfl, by rw [Nat.zero_min]; exact Own.nil _ _ _ _ _, Out.refl _ w⟩
  case round =>
    obtain ⟨k, hk, rfl, hown, hext⟩ := hrel
    by_cases hlt : k < l.length
    · obtain ⟨b1, o1, u1, v1, rfl, -, c0, c1, c2, c3, hu, hv⟩ := (Hx.out.ext hext).entAt k hlt
      obtain ⟨U, N1, n1, rfl⟩ := hu.form0
      obtain ⟨V, N2, n2, rfl⟩ := hv.form0
      have hsz := hext.size
      have hown' := hown.ext (Ext.alloc1 wr (.cells #[.slice U N1 n1, u64V l[k].key.seq, byteV l[k].key.kind, .slice V N2 n2] 32))
      by_cases hkn : k < n
      · have hu' := (hu.alloc (.cells #[.slice U N1 n1, u64V l[k].key.seq, byteV l[k].key.kind, .slice V N2 n2] 32)).drew
        have hv' := (hv.alloc (.cells #[.slice U N1 n1, u64V l[k].key.seq, byteV l[k].key.kind, .slice V N2 n2] 32)).drew
        obtain ⟨z0, z1, z2, z3, -⟩ := cells4 (blk_new wr (.cells #[.slice U N1 n1, u64V l[k].key.seq, byteV l[k].key.kind, .slice V N2 n2] 32))
        have Own' := Lib.hid hown'
        have Lt := Lib.hid hown'.lt
        have Sz := Lib.hid (le_alloc hsz (.cells #[.slice U N1 n1, u64V l[k].key.seq, byteV l[k].key.kind, .slice V N2 n2] 32))
        have Ne := Lib.hid hown.ne_new
        have Hext := Lib.hid hext
        clear hext hown hown'
        go_wp2
        go_region_held3 (fun w' => w'.cell? ⟨wr.heap.size, 0, none⟩ = some (.slice U N1 n1) ∧ w'.cell? ⟨wr.heap.size, 1, none⟩ = some (u64V l[k].key.seq) ∧ w'.cell? ⟨wr.heap.size, 2, none⟩ = some (byteV l[k].key.kind) ∧ w'.cell? ⟨wr.heap.size, 3, none⟩ = some (.slice V N2 n2)) (first | go_keep | (refine ⟨?_, ?_, ?_, ?_⟩ <;> exact hx1.cell (by assumption) (fun f => f)) | (refine ⟨?_, ?_, ?_, ?_⟩ <;> exact hx2.cell (hx1.cell (by assumption) (fun f => f)) (fun f => f)) | (refine ⟨?_, ?_, ?_, ?_⟩ <;> exact g2.cell (cell_alloc (hx2.cell (hx1.cell (by assumption) (fun f => f)) (fun f => f)) _) Ne.out))
          (first | (go_at_call 77; refine (r1_cutI _ (hv'.ext hx1) 600 600 rfl (by decide)).mono ?_; rintro x w2 ⟨x2, rfl, hx2, hb2⟩; obtain ⟨A2, k2, m2, rfl⟩ := hb2.form0) | (go_at_call 77; refine (r1_cutI _ hu' 80 80 rfl (by decide)).mono ?_; rintro x w1 ⟨x1, rfl, hx1, hb1⟩; obtain ⟨A1, k1, m1, rfl⟩ := hb1.form0) | (refine step_append_one (by rfl) (.tmp 18) (.tmp 34) 43 (by rfl) fits32 ((((Own'.out.ext (Out.refl _ _).drew).ext hx1).ext hx2).ext (Ext.alloc1 _ _)) (by rfl) (le_alloc (Nat.le_trans Sz.out (Nat.le_trans hx1.size hx2.size)) _) (blk_new _ _) (by rfl) (cutE l[k]) (ent_rep (e := cutE l[k]) ((hb1.ext hx2).alloc _) (hb2.alloc _) (fun b hb _ => fresh_ok Sz.out Lt.out hb) (fun b hb _ => fresh_ok Sz.out Lt.out (Nat.le_trans hx1.size hb))) (room_min hn) (by decide) ?_; intro v' w' g1 g2 g3))
        go_wp2
        go_roundw
        case rel => exact ⟨k + 1, by omega, by go_num, by rw [take_min_succ hlt hkn, List.map_append]; exact g1, Out.own ((((Hext.out.alloc _).drew.ext hx1).ext hx2).alloc _) g2 (fun k h => (Lt.out k h).1) (Nat.le_refl _)⟩
        case measure => simp [intOf]; omega
      · have Hown := Lib.hid hown'
        have Hext := Lib.hid hext
        clear hext hown hown'
        go_wp2
        go_roundw
        case rel => exact ⟨k + 1, by omega, by go_num, by rw [show min (k + 1) n = min k n from by omega]; exact Hown.out, Hext.out.alloc _⟩
        case measure => simp [intOf]; omega
    · go_wp2
      go_ret
      have hkl : l.take (min k n) = l.take n := by
        rcases Nat.le_total k n with h | h
        · rw [Nat.min_eq_left h, List.take_of_length_le (by omega), List.take_of_length_le (by omega)]
        · rw [Nat.min_eq_right h]
      rw [hkl] at hown
      exact ⟨_, rfl, hext, hown.sl (by decide) (by rw [List.length_map, List.length_take]; show _ ≤ 140737488355328; omega) (fun b hb _ => hb) (fun b hb _ => hb)⟩
end Go.Proofs.Yteaanagljmcidaa
