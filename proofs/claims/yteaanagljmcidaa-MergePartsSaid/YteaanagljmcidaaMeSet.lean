/- merge: set: each source stands somewhere. -/
import Derived.Test.YteaanagljmcidaaMeSeek
namespace Go.Proofs.Yteaanagljmcidaa
open Go.RowKit

attribute [local go_sem ↓] Go.wp_at_zero Go.wp_at_succ

/-- The first k stand where they are to. -/
def upto (d : List Ent → Int) (ss : List (List Ent × Int)) (k : Nat) : List (List Ent × Int) := (ss.take k).map (fun s => (s.1, d s.1)) ++ ss.drop k
theorem upto_length (d : List Ent → Int) (ss : List (List Ent × Int)) (k : Nat) : (upto d ss k).length = ss.length := by unfold upto; simp; omega
theorem upto_get {d : List Ent → Int} {ss : List (List Ent × Int)} {k : Nat} (hk : k < ss.length) : (upto d ss k)[k]'(by rw [upto_length]; exact hk) = ss[k] := by
  unfold upto
  rw [List.getElem_append_right (by simp; omega)]
  simp [Nat.min_eq_left (Nat.le_of_lt hk)]
theorem upto_succ {d : List Ent → Int} {ss : List (List Ent × Int)} {k : Nat} (hk : k < ss.length) : (upto d ss k).set k (ss[k].1, d ss[k].1) = upto d ss (k + 1) := by
  unfold upto
  rw [List.set_append_right _ _ (by simp; omega), List.take_succ_eq_append_getElem hk, List.map_append]
  have : k - ((ss.take k).map fun s => (s.1, d s.1)).length = 0 := by simp; omega
  rw [this]
  have e := List.drop_eq_getElem_cons hk
  rw [e, List.set_cons_zero]
  simp

variable {w : World} {F : Nat → Prop} {C : Nat} {v u q n : Value} {ss : List (List Ent × Int)} {st : Bool}

set_option maxHeartbeats 1000000 in
theorem me_set (h : Cu w F C v ss u q n st) (gf : Nat) (eg : ∀ args w, (callFunc gf args).run Try.prog w = .ok (.enter gf args) w) (lb : Array Value) (d : List Ent → Int) (I : World → Prop) (hI : ∀ a b, I a → Out (fun x => v.ownBlock = some x) a b → I b) (h0 : I w)
    (hc : ∀ (w1 : World) (g off : Nat) (x : Value) (l : List Ent) (y : Int) (cs : Array Value) (t : TypeId), I w1 → v.ownBlock = some g → w1.heap[g]? = some (.cells cs t) → w1.cell? ⟨g, off, none⟩ = some x → w1.cell? ⟨g, off + 1, none⟩ = some (.int .i64 y) → Sl entC w1 (fun b => F b ∧ b ≠ g) x l → (∃ s ∈ ss, s.1 = l) →
      Calls Try.prog gf (#[.pointer (some ⟨g, off, none⟩)] ++ lb) w1 fun e w2 => e = .returned (.tuple #[]) ∧ SetAt w1 w2 g (off + 1) (.int .i64 (d l))) :
    Calls Try.prog 105 #[.pointer (some ⟨C, 0, none⟩), .func (.func gf) #[] lb] w fun e w' => e = .returned (.tuple #[]) ∧ Out (fun x => v.ownBlock = some x) w w' ∧ Cu w' F C v (ss.map fun s => (s.1, d s.1)) u q n st := by
  obtain ⟨A, cap, rfl, -⟩ := h.own.form
  have hmax := h.own.len_le
  have hmax' : ss.length ≤ 9223372036854775807 := hmax
  obtain ⟨r0, r1, r2, r3, r4, rf⟩ := cells5C h
  have Hc := Lib.hid hc
  have HI := Lib.hid hI
  have H0 := Lib.hid h0
  have H := Lib.hid h
  clear hc hI h0 h hmax
  go_enter Try.func105, Try.ntmps105
  go_wp2
  go_loopw [10] (fun s10 wr => ∃ k : Nat, k ≤ ss.length ∧ s10 = .int .i64 k ∧ Out (fun x => (Value.slice A ss.length cap).ownBlock = some x) w wr ∧ Cu wr F C (.slice A ss.length cap) (upto d ss k) u q n st) (fun s10 _ => ss.length - (intOf s10).toNat)
  case atStart => exact ⟨0, Nat.zero_le _, rfl, Out.refl _ _, by simpa [upto] using H.out⟩
  case round =>
    obtain ⟨k, hk, rfl, hx, hcu⟩ := hrel
    by_cases hlt : k < ss.length
    · obtain ⟨z0, z1, z2, z3, z4, zf⟩ := cells5C hcu
      obtain ⟨g, cap', cs, t, x, hv, hb, y0, y1, yf, hsl⟩ := hcu.own.srcAt k (by rw [upto_length]; exact hlt)
      injection hv with hA hn hcp
      subst hA hcp
      clear hn
      rw [upto_get hlt] at y1 hsl
      have HA := Lib.hid (HI.out _ _ H0.out hx)
      have Hcu := Lib.hid hcu
      have Hx := Lib.hid hx
      have Hb := Lib.hid hb
      have Hsl := Lib.hid hsl
      clear hcu hx hb hsl
      go_wp2_with (go_at_fn gf; refine (Hc.out _ g (k * 2) x _ _ cs t HA.out rfl Hb.out y0 y1 Hsl.out ⟨ss[k], List.getElem_mem hlt, rfl⟩).mono ?_; rintro e w1 ⟨rfl, hs⟩)
      go_roundw
      case rel =>
        have ho := hs.out.mono (T := fun b => some g = some b) (fun b _ e => by rw [e])
        have hown := Hcu.out.own.setAt (i := k) (by rw [upto_length]; exact hlt) rfl hs
        rw [upto_get hlt, upto_succ hlt] at hown
        exact ⟨k + 1, by omega, by go_num, Hx.out.trans ho, ho.blk Hcu.out.blk (fun e => Hcu.out.ne e), hown, Hcu.out.ne, Hcu.out.coldC, Hcu.out.coldS⟩
      case measure => simp [intOf]; omega
    · obtain rfl : k = ss.length := by omega
      go_wp2
      go_end0
      exact ⟨rfl, hx, by simpa [upto] using hcu⟩
end Go.Proofs.Yteaanagljmcidaa
