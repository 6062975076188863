/- Lists of entries: alike, copied, cut. -/
import Derived.Test.YteaanagljmcidaaKeys2
namespace Go.Proofs.Yteaanagljmcidaa
open Go.RowKit

attribute [local go_sem ↓] Go.wp_at_zero Go.wp_at_succ

theorem list_ne_at {α : Type} {a b : List α} {k : Nat} (h1 : k < a.length) (h2 : k < b.length) (h : a[k] ≠ b[k]) : a ≠ b := by intro e; subst e; exact h rfl
theorem list_eq_all {α : Type} {a b : List α} (hl : a.length = b.length) (h : ∀ j, j < a.length → a[j]? = b[j]?) : a = b := by
  apply List.ext_getElem?
  intro i
  rcases Nat.lt_or_ge i a.length with hi | hi
  · exact h i hi
  · rw [List.getElem?_eq_none hi, List.getElem?_eq_none (by omega)]

set_option maxHeartbeats 1000000 in
theorem r3_sameEntries (w : World) {F G : Nat → Prop} {x y : Value} (a b : List Ent) (hx : Sl entC w F x a) (hy : Sl entC w G y b) :
    Calls Try.prog 32 #[x, y] w fun e w' => e = .returned (.bool (decide (a = b))) ∧ Ext w w' := by
  obtain ⟨A, cap, rfl, h1, h2, h3, h4⟩ := hx.form
  obtain ⟨B, cap', rfl, g1, g2, g3, g4⟩ := hy.form
  have h3 : a.length ≤ 140737488355328 := h3
  have g3 : b.length ≤ 140737488355328 := g3
  have Hx := Lib.hid hx
  have Hy := Lib.hid hy
  clear h1 h2 h4 g1 g2 g4 hx hy
  by_cases hl : a.length = b.length
  · have hl' : ((a.length : Int) != (b.length : Int)) = false := by simp [hl]
    have HL := Lib.hid hl
    clear hl
    go_enter Try.func32, Try.ntmps32
    go_wp2
    go_loopw [13] (fun i wr => ∃ k : Nat, k ≤ a.length ∧ i = .int .i64 k ∧ (∀ j, j < k → a[j]? = b[j]?) ∧ Ext w wr) (fun i _ => a.length - (intOf i).toNat)
    case atStart => exact ⟨0, Nat.zero_le _, rfl, fun j h => absurd h (by omega), Out.refl _ w⟩
    case round =>
      obtain ⟨k, hk, rfl, hall, hext⟩ := hrel
      have Hall := Lib.hid hall
      clear hall
      by_cases hlt : k < a.length
      · have hlt2 : k < b.length := by rw [← HL.out]; exact hlt
        obtain ⟨b1, o1, u1, v1, rfl, -, c0, c1, c2, c3, hu, hv⟩ := (Hx.out.ext hext).ent k hlt
        obtain ⟨b2, o2, u2, v2, rfl, -, d0, d1, d2, d3, hu', hv'⟩ := (Hy.out.ext hext).ent k hlt2
        have Hext := Lib.hid hext
        clear hext
        by_cases he : a[k] = b[k]
        · have he' : decide (a[k] = b[k]) = true := by simpa using he
          have He := Lib.hid he
          clear he
          go_wp2
          go_region_held3 (fun w' => w'.cell? ⟨b1, o1 + k * 4, none⟩ = some u1 ∧ w'.cell? ⟨b1, o1 + k * 4 + 1, none⟩ = some (u64V a[k].key.seq) ∧ w'.cell? ⟨b1, o1 + k * 4 + 2, none⟩ = some (byteV a[k].key.kind) ∧ w'.cell? ⟨b1, o1 + k * 4 + 3, none⟩ = some v1 ∧ w'.cell? ⟨b2, o2 + k * 4, none⟩ = some u2 ∧ w'.cell? ⟨b2, o2 + k * 4 + 1, none⟩ = some (u64V b[k].key.seq) ∧ w'.cell? ⟨b2, o2 + k * 4 + 2, none⟩ = some (byteV b[k].key.kind) ∧ w'.cell? ⟨b2, o2 + k * 4 + 3, none⟩ = some v2) (first | go_keep | (exact ⟨hx1.cell c0 (fun f => f), hx1.cell c1 (fun f => f), hx1.cell c2 (fun f => f), hx1.cell c3 (fun f => f), hx1.cell d0 (fun f => f), hx1.cell d1 (fun f => f), hx1.cell d2 (fun f => f), hx1.cell d3 (fun f => f)⟩))
            (first | (go_at_call 36; refine (r3_sameEntry _ a[k] b[k] hu.drew hu'.drew hv.drew hv'.drew).mono ?_; rintro e w' ⟨rfl, hx1⟩))
          go_wp2
          go_roundw
          case rel => exact ⟨k + 1, by omega, by go_num, fun j hj => by
            rcases Nat.lt_or_ge j k with h | h
            · exact Hall.out j h
            · obtain rfl : j = k := by omega
              rw [List.getElem?_eq_getElem hlt, List.getElem?_eq_getElem hlt2, He.out], (Hext.out.drew.ext ‹_›)⟩
          case measure => simp [intOf]; omega
        · have he' : decide (a[k] = b[k]) = false := by simpa using he
          have hfin := list_ne_at hlt hlt2 he
          clear he
          go_wp2
          go_region_held3 (fun w' => w'.cell? ⟨b1, o1 + k * 4, none⟩ = some u1 ∧ w'.cell? ⟨b1, o1 + k * 4 + 1, none⟩ = some (u64V a[k].key.seq) ∧ w'.cell? ⟨b1, o1 + k * 4 + 2, none⟩ = some (byteV a[k].key.kind) ∧ w'.cell? ⟨b1, o1 + k * 4 + 3, none⟩ = some v1 ∧ w'.cell? ⟨b2, o2 + k * 4, none⟩ = some u2 ∧ w'.cell? ⟨b2, o2 + k * 4 + 1, none⟩ = some (u64V b[k].key.seq) ∧ w'.cell? ⟨b2, o2 + k * 4 + 2, none⟩ = some (byteV b[k].key.kind) ∧ w'.cell? ⟨b2, o2 + k * 4 + 3, none⟩ = some v2) (first | go_keep | (exact ⟨hx1.cell c0 (fun f => f), hx1.cell c1 (fun f => f), hx1.cell c2 (fun f => f), hx1.cell c3 (fun f => f), hx1.cell d0 (fun f => f), hx1.cell d1 (fun f => f), hx1.cell d2 (fun f => f), hx1.cell d3 (fun f => f)⟩))
            (first | (go_at_call 36; refine (r3_sameEntry _ a[k] b[k] hu.drew hu'.drew hv.drew hv'.drew).mono ?_; rintro e w' ⟨rfl, hx1⟩))
          go_wp2
          go_ret
          exact ⟨retb_of (by simpa using hfin), (Hext.out.drew.ext ‹_›)⟩
      · have hge : a.length ≤ k := by omega
        go_wp2
        go_ret
        exact ⟨retb_of (by simpa using list_eq_all HL.out fun j hj => Hall.out j (by omega)), hext⟩
  · have hl' : ((a.length : Int) != (b.length : Int)) = true := by simp; omega
    have hne : a ≠ b := fun e => hl (by rw [e])
    clear hl
    go_enter Try.func32, Try.ntmps32
    go_wp2
    go_ret
    exact ⟨retb_of (by simpa using hne), Out.refl _ w⟩
end Go.Proofs.Yteaanagljmcidaa
