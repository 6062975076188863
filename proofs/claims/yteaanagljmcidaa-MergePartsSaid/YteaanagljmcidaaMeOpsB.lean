/- merge: From, Before, Next, Prev. -/
import Derived.Test.YteaanagljmcidaaMeOps
namespace Go.Proofs.Yteaanagljmcidaa
open Go.RowKit

attribute [local go_sem ↓] Go.wp_at_zero Go.wp_at_succ
variable {w w' : World} {F G : Nat → Prop} {C : Nat} {v u q n : Value} {ls : List (List Ent)} {ss : List (List Ent × Int)} {st : Bool} {o : Option Key} {k : Key}

/-- A version in a box, while sources are set. -/
structure KeyAt (w : World) (G : Nat → Prop) (v : Value) (K : Nat) (u : Value) (k : Key) : Prop where
  cells : w.cell? ⟨K, 0, none⟩ = some u ∧ w.cell? ⟨K, 1, none⟩ = some (u64V k.seq) ∧ w.cell? ⟨K, 2, none⟩ = some (byteV k.kind)
  user : Bs w G u k.user
  apart : ∀ b, v.ownBlock = some b → b ≠ K ∧ ¬ G b
theorem KeyAt.out {a b : World} {K : Nat} (h : KeyAt a G v K u k) (ho : Out (fun x => v.ownBlock = some x) a b) : KeyAt b G v K u k :=
  ⟨⟨ho.cell h.cells.1 (fun e => (h.apart _ e).1 rfl), ho.cell h.cells.2.1 (fun e => (h.apart _ e).1 rfl), ho.cell h.cells.2.2 (fun e => (h.apart _ e).1 rfl)⟩, h.user.out ho (fun b _ hb e => (h.apart b e).2 hb), h.apart⟩
theorem Cu.keyAt (h : Cu w F C v ss u q n st) {x : Value} {w1 : World} (hu : Bs w G x k.user) (hG : ∀ b, v.ownBlock = some b → ¬ G b) (hw : w1 = w.alloc (.cells #[x, u64V k.seq, byteV k.kind] 30)) : KeyAt w1 G v w.heap.size x k := by
  subst hw
  obtain ⟨k0, k1, k2, -⟩ := cells3 (blk_new w (.cells #[x, u64V k.seq, byteV k.kind] 30))
  exact ⟨⟨k0, k1, k2⟩, hu.alloc _, fun b hb => ⟨fun e => by have := (h.own.lt b hb).2; omega, hG b hb⟩⟩

set_option maxHeartbeats 1000000 in
theorem me_from (h : Cur w F C v ls o) (hs : ∀ l ∈ ls, SortedE l) {x : Value} (hu : Bs w G x k.user) (hG : ∀ b, v.ownBlock = some b → ¬ G b) :
    Calls Try.prog 52 #[.pointer (some ⟨C, 0, none⟩), .agg #[x, u64V k.seq, byteV k.kind]] w fun e w' => e = .returned (.bool (fromK (fun j => decide (kcmp j k < 0)) ls).isSome) ∧ Out (hot C v) w w' ∧ Cur w' F C v ls (fromK (fun j => decide (kcmp j k < 0)) ls) := by
  obtain ⟨ss, hss, u, q, n, hc, -⟩ := h
  obtain ⟨U, N1, n1, rfl⟩ := hu.form0
  have x1 := Ext.alloc1 w (.cells #[.slice U N1 n1, u64V k.seq, byteV k.kind] 30)
  have HK := Lib.hid (hc.keyAt hu hG rfl)
  have H := Lib.hid (hc.ext x1)
  have X1 := Lib.hid x1
  clear hc hu x1
  have eg := enters_of Try.func110 (by kernel_rfl) rfl
  go_enter Try.func52, Try.ntmps52
  go_wp2_with (first
    | (go_at_call 105; refine (me_set H.out 110 eg #[.pointer (some ⟨w.heap.size, 0, none⟩)] (fun l => (cut (fun j => decide (kcmp j k < 0)) l : Int)) (fun a => KeyAt a G v w.heap.size (.slice U N1 n1) k) (fun _ _ hI ho => hI.out ho) HK.out (fun w1 g off x l y cs t hI _ hb h0 h1 hl hm => (by
        obtain ⟨s, hs1, rfl⟩ := hm
        have := me_from1 (w := w1) (g := g) (off := off) h0 h1 (blk_free hb) hl hI.cells hI.user (hs _ (by rw [← hss]; exact List.mem_map.2 ⟨s, hs1, rfl⟩))
        rw [cut_ahead]; exact this))).mono ?_; rintro e w1 ⟨rfl, ho1, hc1⟩; rw [stood _ hss] at hc1; have Hc1 := Lib.hid hc1; clear hc1)
    | (go_at_call 107; refine (me_leastD _ (down_ahead k) hs Hc1.out).mono ?_; rintro e w2 ⟨rfl, ho2, hc2⟩; have Hc2 := Lib.hid hc2; clear hc2))
  go_ret
  exact ⟨rfl, (Ext.out X1.out _).trans (hot_trans ho1 ho2), Hc2.out⟩

set_option maxHeartbeats 1000000 in
theorem me_before (h : Cur w F C v ls o) (hs : ∀ l ∈ ls, SortedE l) {x : Value} (hu : Bs w G x k.user) (hG : ∀ b, v.ownBlock = some b → ¬ G b) :
    Calls Try.prog 54 #[.pointer (some ⟨C, 0, none⟩), .agg #[x, u64V k.seq, byteV k.kind]] w fun e w' => e = .returned (.bool (aheadK (fun j => decide (kcmp j k < 0)) ls).isSome) ∧ Out (hot C v) w w' ∧ Cur w' F C v ls (aheadK (fun j => decide (kcmp j k < 0)) ls) := by
  obtain ⟨ss, hss, u, q, n, hc, -⟩ := h
  obtain ⟨U, N1, n1, rfl⟩ := hu.form0
  have x1 := Ext.alloc1 w (.cells #[.slice U N1 n1, u64V k.seq, byteV k.kind] 30)
  have HK := Lib.hid (hc.keyAt hu hG rfl)
  have H := Lib.hid (hc.ext x1)
  have X1 := Lib.hid x1
  clear hc hu x1
  have eg := enters_of Try.func112 (by kernel_rfl) rfl
  go_enter Try.func54, Try.ntmps54
  go_wp2_with (first
    | (go_at_call 105; refine (me_set H.out 112 eg #[.pointer (some ⟨w.heap.size, 0, none⟩)] (fun l => (cut (fun j => decide (kcmp j k < 0)) l : Int)) (fun a => KeyAt a G v w.heap.size (.slice U N1 n1) k) (fun _ _ hI ho => hI.out ho) HK.out (fun w1 g off x l y cs t hI _ hb h0 h1 hl hm => (by
        obtain ⟨s, hs1, rfl⟩ := hm
        have := me_before1 (w := w1) (g := g) (off := off) h0 h1 (blk_free hb) hl hI.cells hI.user (hs _ (by rw [← hss]; exact List.mem_map.2 ⟨s, hs1, rfl⟩))
        rw [cut_ahead]; exact this))).mono ?_; rintro e w1 ⟨rfl, ho1, hc1⟩; rw [stood _ hss] at hc1; have Hc1 := Lib.hid hc1; clear hc1)
    | (go_at_call 109; refine (me_greatestD _ (down_ahead k) hs Hc1.out).mono ?_; rintro e w2 ⟨rfl, ho2, hc2⟩; have Hc2 := Lib.hid hc2; clear hc2))
  go_ret
  exact ⟨rfl, (Ext.out X1.out _).trans (hot_trans ho1 ho2), Hc2.out⟩

set_option maxHeartbeats 1000000 in
/-- Next, where it stands. -/
theorem me_next (h : Cur w F C v ls (some k)) (hs : ∀ l ∈ ls, SortedE l) :
    Calls Try.prog 55 #[.pointer (some ⟨C, 0, none⟩)] w fun e w' => e = .returned (.bool (fromK (fun j => !decide (kcmp k j < 0)) ls).isSome) ∧ Out (hot C v) w w' ∧ Cur w' F C v ls (fromK (fun j => !decide (kcmp k j < 0)) ls) := by
  obtain ⟨ss, hss, u, q, n, hc, hk⟩ := h
  obtain ⟨rfl, rfl, hu⟩ := hk k rfl
  obtain ⟨U, N1, n1, rfl⟩ := hu.form0
  simp only [Option.isSome_some] at hc
  obtain ⟨r0, r1, r2, r3, r4, rf⟩ := cells5C hc
  have x1 := Ext.alloc1 w (.cells #[.slice U N1 n1, u64V k.seq, byteV k.kind] 30)
  have HK := Lib.hid (hc.keyAt hu hc.coldS rfl)
  have H := Lib.hid (hc.ext x1)
  have X1 := Lib.hid x1
  clear hc hu x1 hk
  have eg := enters_of Try.func113 (by kernel_rfl) rfl
  go_enter Try.func55, Try.ntmps55
  go_wp2_with (first
    | (go_at_call 105; refine (me_set H.out 113 eg #[.pointer (some ⟨w.heap.size, 0, none⟩)] (fun l => (cut (fun j => !decide (kcmp k j < 0)) l : Int)) (fun a => KeyAt a F v w.heap.size (.slice U N1 n1) k) (fun _ _ hI ho => hI.out ho) HK.out (fun w1 g off x l y cs t hI hg hb h0 h1 hl hm => (by
        obtain ⟨s, hs1, rfl⟩ := hm
        exact me_next1 (w := w1) (g := g) (off := off) hb h0 h1 hl hI.cells (fun e => (hI.apart g hg).1 e.symm) (fun hf => hf.2 rfl) (hI.apart g hg).2 hI.user (hs _ (by rw [← hss]; exact List.mem_map.2 ⟨s, hs1, rfl⟩))))).mono ?_; rintro e w1 ⟨rfl, ho1, hc1⟩; rw [stood _ hss] at hc1; have Hc1 := Lib.hid hc1; clear hc1)
    | (go_at_call 107; refine (me_leastD _ (down_upto k) hs Hc1.out).mono ?_; rintro e w2 ⟨rfl, ho2, hc2⟩; have Hc2 := Lib.hid hc2; clear hc2))
  go_ret
  exact ⟨rfl, (Ext.out X1.out _).trans (hot_trans ho1 ho2), Hc2.out⟩
/-- Next, Prev, where it stands nowhere. -/
theorem me_nextNo (h : Cur w F C v ls none) : Calls Try.prog 55 #[.pointer (some ⟨C, 0, none⟩)] w fun e w' => e = .returned (.bool false) ∧ w' = w := by
  obtain ⟨ss, hss, u, q, n, hc, -⟩ := h
  simp only [Option.isSome_none] at hc
  obtain ⟨r0, r1, r2, r3, r4, rf⟩ := cells5C hc
  clear hc
  go_enter Try.func55, Try.ntmps55
  go_wp2
  go_ret
  exact ⟨rfl, rfl⟩
theorem me_prevNo (h : Cur w F C v ls none) : Calls Try.prog 56 #[.pointer (some ⟨C, 0, none⟩)] w fun e w' => e = .returned (.bool false) ∧ w' = w := by
  obtain ⟨ss, hss, u, q, n, hc, -⟩ := h
  simp only [Option.isSome_none] at hc
  obtain ⟨r0, r1, r2, r3, r4, rf⟩ := cells5C hc
  clear hc
  go_enter Try.func56, Try.ntmps56
  go_wp2
  go_ret
  exact ⟨rfl, rfl⟩
theorem me_prev (h : Cur w F C v ls (some k)) (hs : ∀ l ∈ ls, SortedE l) :
    Calls Try.prog 56 #[.pointer (some ⟨C, 0, none⟩)] w fun e w' => e = .returned (.bool (aheadK (fun j => decide (kcmp j k < 0)) ls).isSome) ∧ Out (hot C v) w w' ∧ Cur w' F C v ls (aheadK (fun j => decide (kcmp j k < 0)) ls) := by
  have H := Lib.hid h
  obtain ⟨ss, hss, u, q, n, hc, hk⟩ := h
  obtain ⟨rfl, rfl, hu⟩ := hk k rfl
  obtain ⟨U, N1, n1, rfl⟩ := hu.form0
  simp only [Option.isSome_some] at hc
  obtain ⟨r0, r1, r2, r3, r4, rf⟩ := cells5C hc
  have Hu := Lib.hid hu
  have HS := Lib.hid hc.coldS
  clear hc hu hk
  go_enter Try.func56, Try.ntmps56
  go_wp2_with (go_at_call 54; refine (me_before H.out hs Hu.out HS.out).mono ?_; rintro e w1 ⟨rfl, ho1, hc1⟩; have Hc1 := Lib.hid hc1; clear hc1)
  go_ret
  exact ⟨rfl, ho1, Hc1.out⟩
/-- Of a nil cursor. -/
theorem nil_first : Calls Try.prog 50 #[.pointer none] w fun e w' => e = .returned (.bool false) ∧ w' = w := by
  go_enter Try.func50, Try.ntmps50
  go_wp2
  go_ret
  exact ⟨rfl, rfl⟩
theorem nil_last : Calls Try.prog 51 #[.pointer none] w fun e w' => e = .returned (.bool false) ∧ w' = w := by
  go_enter Try.func51, Try.ntmps51
  go_wp2
  go_ret
  exact ⟨rfl, rfl⟩
theorem nil_next : Calls Try.prog 55 #[.pointer none] w fun e w' => e = .returned (.bool false) ∧ w' = w := by
  go_enter Try.func55, Try.ntmps55
  go_wp2
  go_ret
  exact ⟨rfl, rfl⟩
theorem nil_prev : Calls Try.prog 56 #[.pointer none] w fun e w' => e = .returned (.bool false) ∧ w' = w := by
  go_enter Try.func56, Try.ntmps56
  go_wp2
  go_ret
  exact ⟨rfl, rfl⟩
theorem nil_fromC {x : Value} {A : Option Addr} {N m : Nat} (hx : x = .slice A N m) : Calls Try.prog 52 #[.pointer none, .agg #[x, u64V k.seq, byteV k.kind]] w fun e w' => e = .returned (.bool false) ∧ Ext w w' := by
  subst hx
  go_enter Try.func52, Try.ntmps52
  go_wp2
  go_ret
  exact ⟨rfl, Ext.alloc1 _ _⟩
theorem nil_beforeC {x : Value} {A : Option Addr} {N m : Nat} (hx : x = .slice A N m) : Calls Try.prog 54 #[.pointer none, .agg #[x, u64V k.seq, byteV k.kind]] w fun e w' => e = .returned (.bool false) ∧ Ext w w' := by
  subst hx
  go_enter Try.func54, Try.ntmps54
  go_wp2
  go_ret
  exact ⟨rfl, Ext.alloc1 _ _⟩
end Go.Proofs.Yteaanagljmcidaa
