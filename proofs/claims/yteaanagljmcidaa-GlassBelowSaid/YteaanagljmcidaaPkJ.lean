/- glass: Scan. · glass, in plain Lean: what the document keeps; parts; backwards. · law15: what its walks share. · Arguments, as they come in, read as lists. · More arguments, as they come in: bools, keys, entries, lists of lists, steps. Arguments, as they come in: ops. Arguments, as they come in: steps of a script, an op, lists of bytes, numbers. · Arguments, as they come in: spans; five of them. · The last step of the rows: true comes back, and what lay there lies there. -/
import Derived.Test.YteaanagljmcidaaPkI
import Derived.Deep.DeepCutAuto
import Derived.Test.YteaanagljmcidaaPkG
import Derived.Test.YteaanagljmcidaaPkD
import Derived.Test.YteaanagljmcidaaPkC
import Derived.Test.YteaanagljmcidaaPkA
import Derived.Test.YteaanagljmcidaaProg
import Derived.ProofKit
import Derived.Deep.Slices
import Derived.Test.YteaanagljmcidaaRows
namespace Go.Proofs.Yteaanagljmcidaa
open Go.RowKit

attribute [local go_sem ↓] Go.wp_at_zero Go.wp_at_succ

def topP (m : List PairE) (til : List UInt8) : Nat := if til.length = 0 then m.length else lowP m til
/-- The pairs within bounds. -/
def segP (m : List PairE) (frm til : List UInt8) : List PairE := (m.take (topP m til)).drop (lowP m frm)
def dirP (m : List PairE) (frm til : List UInt8) (back : Bool) : List PairE := if back then (segP m frm til).reverse else segP m frm til
def scanE (m : List PairE) (frm til : List UInt8) (most : Int) (back : Bool) : List PairE := (dirP m frm til back).take most.toNat
theorem topP_le (m : List PairE) (til : List UInt8) : topP m til ≤ m.length := by
  unfold topP
  split
  · exact Nat.le_refl _
  · exact lowP_le _ _
theorem dirP_length (m : List PairE) (frm til : List UInt8) (back : Bool) : (dirP m frm til back).length = topP m til - lowP m frm := by
  have h := topP_le m til
  unfold dirP segP
  split <;> simp <;> omega
def ixP (a b j : Nat) (back : Bool) : Nat := if back then b - 1 - j else a + j
theorem dirP_get {m : List PairE} {frm til : List UInt8} {back : Bool} {j : Nat} (hj : j < topP m til - lowP m frm) :
    ∃ (h1 : j < (dirP m frm til back).length) (h2 : ixP (lowP m frm) (topP m til) j back < m.length), (dirP m frm til back)[j] = m[ixP (lowP m frm) (topP m til) j back] := by
  have h := topP_le m til
  have hl := dirP_length m frm til back
  refine ⟨by omega, by unfold ixP; split <;> omega, ?_⟩
  unfold dirP ixP
  cases back with
  | true =>
    simp only [if_true]
    rw [List.getElem_reverse]
    unfold segP
    rw [List.getElem_drop, List.getElem_take]
    congr 1
    simp
    omega
  | false =>
    simp only [Bool.false_eq_true, if_false]
    unfold segP
    rw [List.getElem_drop, List.getElem_take]

section
variable {w w' : World} {F H H' : Nat → Prop} {G : Nat} {v : Value} {m : List PairE}
set_option maxRecDepth 100000 in
set_option maxHeartbeats 8000000 in
theorem gl_scan (h : Gl w F G v m) {fv tv : Value} (frm til : List UInt8) (hf : Bs w H fv frm) (ht : Bs w H' tv til) (most : Int) (back : Bool) (hm1 : -9223372036854775808 ≤ most) (hm2 : most ≤ 9223372036854775807) (hml : m.length ≤ 1000000) :
    Calls Try.prog 79 #[.pointer (some ⟨G, 0, none⟩), fv, tv, .int .i64 most, .bool back] w (OwnedM pairC 107 w (scanE m frm til most back)) := by
  obtain ⟨r0, rf⟩ := cells1 h.blk
  obtain ⟨A, cap, rfl, -, -, -, -⟩ := h.sl.form
  obtain ⟨U, N, n, rfl⟩ := hf.form0
  obtain ⟨T, tc, rfl, -, -, htb, -⟩ := ht.form
  have htb : til.length ≤ 140737488355328 := htb
  have HP1 := Lib.hid (gl_place h frm hf)
  have HP2 := Lib.hid fun w' (hx : Ext w w') => gl_place (h.ext hx) til (ht.ext hx)
  have Hsl := Lib.hid h.sl
  have HB := Lib.hid h.blk
  have htop := topP_le m til
  have hlow := lowP_le m frm
  have hdl := dirP_length m frm til back
  have Hget := Lib.hid fun (j : Nat) hj => dirP_get (m := m) (frm := frm) (til := til) (back := back) (j := j) hj
  have Hsc : Hid (scanE m frm til most back = (dirP m frm til back).take most.toNat) := Lib.hid rfl
  have Htop : Hid (topP m til = if til.length = 0 then m.length else lowP m til) := Lib.hid rfl
  have hlow2 := lowP_le m til
  generalize hb : topP m til = b at *
  generalize ha : lowP m frm = a at *
  generalize hD : dirP m frm til back = D at *
  generalize hasP m frm = qf at *
  generalize hasP m til = qt at *
  generalize hlt' : lowP m til = lt at *
  clear h hf ht hD hlt' ha hb
  obtain ⟨mk1, -⟩ : ∃ x : Nat, x = 0 := ⟨0, rfl⟩
  go_enter Try.func79, Try.ntmps79
  go_upto_if 32 with (first
    | (have hh := mk1; clear hh; go_at_call 142; refine HP1.out.mono ?_; rintro r w1 ⟨rfl, hx1⟩; have HX1 := Lib.hid hx1; have e0 := hx1.cell r0 (fun f => f); clear mk1 hx1))
  go_cut [13] (fun s13 wx => s13 = .int .i64 b ∧ Ext w wx)
  case first =>
    by_cases ht0 : til.length = 0
    · have Hb2 := Lib.hid (Htop.out.trans (if_pos ht0))
      have h00 : ¬ (0 < til.length) := by omega
      clear Htop ht0
      go_wp2
      go_meet
      exact ⟨by rw [Hb2.out], HX1.out⟩
    · have Hb2 := Lib.hid (Htop.out.trans (if_neg ht0))
      have h00 : 0 < til.length := by omega
      clear Htop ht0
      go_wp2_with (go_at_call 142; refine (HP2.out _ HX1.out).mono ?_; rintro r w2 ⟨rfl, hx2⟩)
      go_meet
      exact ⟨by rw [Hb2.out], HX1.out.ext hx2⟩
  case rest =>
    obtain ⟨rfl, hxc⟩ := hcut
    have HXc := Lib.hid hxc
    have hzc := hxc.size
    clear hxc HP1 HP2 HX1 e0 Htop r0 rf
    obtain ⟨mk2, -⟩ : ∃ x : Nat, x = 0 := ⟨0, rfl⟩
    go_wp2
    go_loopw [14, 15] (fun s14 s15 wr => ∃ j : Nat, j ≤ D.length ∧ j ≤ most.toNat ∧ s15 = .int .i64 ((a : Int) + j) ∧ Own pairC 107 wr w.heap.size (fun b => w.heap.size ≤ b) s14 (D.take j) ∧ Ext w wr) (fun _ s15 _ => D.length - (intOf s15 - a).toNat)
    case atStart => exact ⟨0, Nat.zero_le _, Nat.zero_le _, by simp, Own.nil _ _ _ _ _, HXc.out⟩
    case round =>
      obtain ⟨wo, rfl⟩ : ∃ x : World, x = wr := ⟨_, rfl⟩
      obtain ⟨j, hj, hjm, rfl, hown, hx⟩ := hrel
      obtain ⟨A3, c3, e3, -⟩ := hown.form
      have hjl : (D.take j).length = j := List.length_take_of_le hj
      rw [hjl] at e3
      subst e3
      have Hown := Lib.hid hown
      have HX := Lib.hid hx
      have hsz := hx.size
      clear hown hx hjl
      by_cases hjd : j < D.length
      · have hjb : (a : Int) + j < b := by omega
        by_cases hjo : (j : Int) < most
        · as_aux_lemma =>
            obtain ⟨h1, h2, hge⟩ := Hget.out j (by omega)
            obtain ⟨b1, o1, u1, v1, rfl, -, c0, c1, hu, hv⟩ := Hsl.out.pair (ixP a b j back) h2
            rw [← hge] at hu hv
            have hix : ((ixP a b j back : Nat) : Int) = if back then (b : Int) - 1 - j else a + j := by
              cases back with
              | true => show ((b - 1 - j : Nat) : Int) = (b : Int) - 1 - j; omega
              | false => show ((a + j : Nat) : Int) = (a : Int) + j; omega
            have Hix := Lib.hid hix
            clear hge hix
            generalize ixP a b j back = ix at *
            obtain ⟨U1, N1, n1, rfl⟩ := hu.form0
            obtain ⟨V1, M1, m1, rfl⟩ := hv.form0
            have hb1 : b1 < w.heap.size := World.block_lt_of_cell? w _ c0
            have hG := blk_lt HB.out
            have Ne1 : Hid (¬ (Value.slice A3 j c3).ownBlock = some G) := Lib.hid fun e => by have := (Hown.out.lt _ e).1; omega
            have Ne2 : Hid (¬ (Value.slice A3 j c3).ownBlock = some b1) := Lib.hid fun e => by have := (Hown.out.lt _ e).1; omega
            obtain ⟨e0, -⟩ := cells1 (HX.out.blk HB.out (fun f => f))
            have d0 := HX.out.cell c0 (fun f => f)
            have d1 := HX.out.cell c1 (fun f => f)
            have Hu := Lib.hid (hu.ext HX.out).drew
            have Hv := Lib.hid (hv.ext HX.out).drew
            have Htk := Lib.hid (List.take_succ_eq_append_getElem h1)
            have Lt := Lib.hid Hown.out.lt
            generalize D[j] = p at *
            clear hu hv c0 c1 h1
            go_upto_if 52 with fail
            go_cut [16] (fun s16 wx => s16 = .int .i64 (ix : Nat) ∧ wx = wo)
            case first =>
              cases back with
              | true =>
                have hi := Hix.out
                simp only [if_true] at hi
                have Hi := Lib.hid hi
                clear hi Hix
                go_wp2
                go_meet
                exact ⟨by rw [Hi.out]; congr 1; omega, rfl⟩
              | false =>
                have hi := Hix.out
                simp only [Bool.false_eq_true, if_false] at hi
                have Hi := Lib.hid hi
                clear hi Hix
                go_wp2
                go_meet
                exact ⟨by rw [Hi.out], rfl⟩
            case rest =>
              obtain ⟨rfl, rfl⟩ := hcut
              go_wp2
              go_region_held3 (fun w' => w'.cell? ⟨G, 0, none⟩ = some (.slice (some ⟨b1, o1, none⟩) m.length cap) ∧ w'.cell? ⟨b1, o1 + ix * 2, none⟩ = some (.slice U1 N1 n1) ∧ w'.cell? ⟨b1, o1 + ix * 2 + 1, none⟩ = some (.slice V1 M1 m1))
                (first | go_keep | (refine ⟨?_, ?_, ?_⟩ <;> exact hx1.cell (by assumption) (fun f => f)) | (refine ⟨?_, ?_, ?_⟩ <;> exact hx2.cell (hx1.cell (by assumption) (fun f => f)) (fun f => f)) | (exact ⟨g2.cell (cell_alloc (hx2.cell (hx1.cell (by assumption) (fun f => f)) (fun f => f)) _) Ne1.out, g2.cell (cell_alloc (hx2.cell (hx1.cell (by assumption) (fun f => f)) (fun f => f)) _) Ne2.out, g2.cell (cell_alloc (hx2.cell (hx1.cell (by assumption) (fun f => f)) (fun f => f)) _) Ne2.out⟩))
                (first
                  | (have hh := mk2; clear hh; go_at_call 122; refine (bytes_clone _ Hu.out).mono ?_; rintro x w1 ⟨x1, rfl, hx1, hb1⟩; obtain ⟨A1, k1, m1', rfl⟩ := hb1.form0; have hv1 := Lib.hid (Hv.out.ext hx1); clear mk2)
                  | (go_at_call 122; refine (bytes_clone _ hv1.out).mono ?_; rintro x w2 ⟨x2, rfl, hx2, hb2⟩; obtain ⟨A2, k2, m2, rfl⟩ := hb2.form0)
                  | (refine step_append_one (by rfl) (.tmp 59) (.tmp 79) 93 (by rfl) fits107 ((((Hown.out.ext (Out.refl _ _).drew).ext hx1).ext hx2).ext (Ext.alloc1 _ _)) (by rfl) (le_alloc (Nat.le_trans hsz (Nat.le_trans hx1.size hx2.size)) _) (blk_new _ _) (by rfl) p ⟨_, _, rfl, ((hb1.ext hx2).alloc _).mono (fun b hb _ => fresh_ok hsz Lt.out hb) (.inl (by decide)), (hb2.alloc _).mono (fun b hb _ => fresh_ok hsz Lt.out (Nat.le_trans hx1.size hb)) (.inl (by decide))⟩ (by rw [List.length_take]; omega) (by decide) ?_; intro v' w' g1 g2 g3))
              go_wp2
              go_roundw
              case rel => exact ⟨j + 1, by omega, by omega, by go_num, by rw [Htk.out]; exact g1, Out.own ((((HX.out).drew.ext hx1).ext hx2).alloc _) g2 (fun k h => (Lt.out k h).1) (Nat.le_refl _)⟩
              case measure => simp [intOf] <;> omega
        · have hjo' : most ≤ j := by omega
          have He : Hid (scanE m frm til most back = D.take j) := Lib.hid (by rw [Hsc.out, show most.toNat = j by omega])
          clear hjo
          go_wp2
          go_ret
          exact ⟨_, rfl, HX.out, by rw [He.out]; exact Hown.out⟩
      · have hjb : (b : Int) ≤ (a : Int) + j := by omega
        have He : Hid (scanE m frm til most back = D.take j) := Lib.hid (by rw [Hsc.out, List.take_of_length_le (by omega : D.length ≤ j), List.take_of_length_le (by omega)])
        go_wp2
        go_ret
        exact ⟨_, rfl, HX.out, by rw [He.out]; exact Hown.out⟩
end
end Go.Proofs.Yteaanagljmcidaa
namespace Go.Proofs.Yteaanagljmcidaa

/-! ### the newest as of a number, by the one before it -/
theorem sees_zero {l : List Ent} (h : SortedE l) (hi : 0 < l.length) (q : Nat) : l.find? (fitsK l[0].key.user q) = some l[0] ↔ l[0].key.seq.toNat ≤ q := by
  constructor
  · intro hf
    exact (fitsK_self (List.find?_some hf)).2
  · intro hq
    refine (find_first h).2 ⟨List.getElem_mem hi, by simp [fitsK, hq], fun y hy _ => ?_⟩
    obtain ⟨j, hj, rfl⟩ := List.getElem_of_mem hy
    rcases Nat.eq_zero_or_pos j with rfl | hj0
    · exact .inl rfl
    · exact .inr (List.pairwise_iff_getElem.1 h 0 j hi hj hj0)
theorem sees_succ {l : List Ent} (h : SortedE l) {p : Nat} (hi : p + 1 < l.length) (q : Nat) :
    l.find? (fitsK l[p + 1].key.user q) = some l[p + 1] ↔ l[p + 1].key.seq.toNat ≤ q ∧ (l[p].key.user ≠ l[p + 1].key.user ∨ q < l[p].key.seq.toNat) := by
  constructor
  · intro hf
    obtain ⟨-, h2, h3⟩ := (find_first h).1 hf
    refine ⟨(fitsK_self h2).2, ?_⟩
    by_cases hu : l[p].key.user = l[p + 1].key.user
    · refine .inr ?_
      apply Classical.byContradiction
      intro hn
      have hlt : kcmp l[p].key l[p + 1].key < 0 := List.pairwise_iff_getElem.1 h p (p + 1) (by omega) hi (by omega)
      rcases h3 l[p] (List.getElem_mem (by omega)) (by simp [fitsK, hu]; omega) with h4 | h4
      · rw [h4] at hlt; exact kcmp_irrefl _ hlt
      · exact kcmp_irrefl _ (kcmp_trans hlt h4)
    · exact .inl hu
  · rintro ⟨h1, h2⟩
    refine (find_first h).2 ⟨List.getElem_mem hi, by simp [fitsK, h1], fun y hy hf => ?_⟩
    obtain ⟨j, hj, rfl⟩ := List.getElem_of_mem hy
    obtain ⟨f1, f2⟩ := fitsK_self hf
    rcases Nat.lt_trichotomy j (p + 1) with hlt | rfl | hgt
    · exfalso
      have hpi : kcmp l[p].key l[p + 1].key < 0 := List.pairwise_iff_getElem.1 h p (p + 1) (by omega) hi (by omega)
      have hs : l[p].key.user = l[p + 1].key.user ∧ l[p].key.seq.toNat ≤ l[j].key.seq.toNat := by
        rcases Nat.lt_or_ge j p with hjp | hjp
        · have hjp' : kcmp l[j].key l[p].key < 0 := List.pairwise_iff_getElem.1 h j p (by omega) (by omega) hjp
          have hu : l[p].key.user = l[p + 1].key.user := by
            rcases kuser_le hjp' with h3 | h3
            · rw [f1] at h3
              rcases kuser_le hpi with h4 | h4
              · exact absurd (bcmp_trans _ _ _ h3 h4) (bcmp_irrefl _)
              · exact h4
            · rw [← h3, f1]
          exact ⟨hu, kcmp_seq hjp' (by rw [f1, hu])⟩
        · obtain rfl : j = p := by omega
          exact ⟨f1, Nat.le_refl _⟩
      rcases h2 with h2 | h2
      · exact h2 hs.1
      · omega
    · exact .inl rfl
    · exact .inr (List.pairwise_iff_getElem.1 h (p + 1) j hi hj hgt)

/-! ### what the document keeps, from the last on -/
def headSame (r : List Ent) (e : Ent) : Bool := r.head?.any fun x => x.key.user == e.key.user
def refK (l : List Ent) (L : List SpanE) (bottom : Bool) (qs : List Nat) (i : Nat) : List Ent := if bottom then bareE ((l.drop i).filter (staysE l L qs)) else (l.drop i).filter (staysE l L qs)
section
variable {l : List Ent} {L : List SpanE} {bottom : Bool} {qs : List Nat}
theorem refK_zero : refK l L bottom qs 0 = keepE l L bottom qs := rfl
theorem refK_last : refK l L bottom qs l.length = [] := by
  unfold refK
  rw [List.drop_length]
  cases bottom <;> rfl
theorem refK_len {i : Nat} : (refK l L bottom qs i).length ≤ l.length := by
  have h1 : ((l.drop i).filter (staysE l L qs)).length ≤ l.length := Nat.le_trans (List.length_filter_le _ _) (by rw [List.length_drop]; omega)
  unfold refK
  split
  · exact Nat.le_trans (bareE_sub _).length_le h1
  · exact h1
theorem refK_no {i : Nat} (hi : i < l.length) (h : staysE l L qs l[i] = false) : refK l L bottom qs i = refK l L bottom qs (i + 1) := by
  unfold refK
  rw [List.drop_eq_getElem_cons hi, List.filter_cons, h]
  rfl
theorem refK_bare {i : Nat} (hi : i < l.length) (hb : bottom = true) (hk : isPut l[i] = false) (ho : headSame (refK l L bottom qs (i + 1)) l[i] = false) : refK l L bottom qs i = refK l L bottom qs (i + 1) := by
  subst hb
  cases h : staysE l L qs l[i] with
  | false => exact refK_no hi h
  | true =>
    unfold refK at ho ⊢
    rw [List.drop_eq_getElem_cons hi, List.filter_cons, h]
    simp only [if_true] at ho ⊢
    rw [bareE_cons]
    unfold headSame at ho
    unfold bareStep
    rw [if_neg]
    rintro (h1 | h1)
    · rw [hk] at h1; cases h1
    · rw [ho] at h1; cases h1
theorem refK_yes {i : Nat} (hi : i < l.length) (h : staysE l L qs l[i] = true) (hc : bottom = false ∨ isPut l[i] = true ∨ headSame (refK l L bottom qs (i + 1)) l[i] = true) : refK l L bottom qs i = l[i] :: refK l L bottom qs (i + 1) := by
  unfold refK at hc ⊢
  rw [List.drop_eq_getElem_cons hi, List.filter_cons, h]
  cases bottom with
  | false => rfl
  | true =>
    simp only [if_true] at hc ⊢
    rw [bareE_cons]
    unfold headSame at hc
    unfold bareStep
    rw [if_pos]
    rcases hc with hc | hc | hc
    · cases hc
    · exact .inl hc
    · exact .inr hc
end

/-! ### parts -/
theorem bcmp_next : ∀ a b : List UInt8, bcmp a (b ++ [0]) < 0 ↔ bcmp a b ≤ 0
  | [], [] => by decide
  | [], y :: b => by simp [bcmp]
  | x :: a, [] => by
    have hx : ¬ x < (0 : UInt8) := by simp
    by_cases h0 : (0 : UInt8) < x
    · simp [bcmp, h0]
    · have h1 : x = 0 := by
        have := UInt8.not_lt.1 h0
        exact UInt8.le_antisymm this (UInt8.not_lt.1 hx)
      subst h1
      cases a <;> simp [bcmp]
  | x :: a, y :: b => by
    have ih := bcmp_next a b
    rw [List.cons_append]
    simp only [bcmp]
    split
    · simp
    · split
      · simp
      · exact ih
theorem lowP_nil {m : List PairE} (h : SortedP m) : lowP m [] = 0 := by
  apply Classical.byContradiction
  intro hn
  have h1 := lowP_le m []
  have := (lowP_iff h [] (j := 0) (by omega)).2 (by omega)
  have h2 : ¬ bcmp m[0].key [] < 0 := by cases m[0].key <;> simp [bcmp]
  exact h2 this
theorem lowP_next {m : List PairE} (h : SortedP m) {j : Nat} (hj : j < m.length) : lowP m (m[j].key ++ [0]) = j + 1 := by
  have h1 := lowP_le m (m[j].key ++ [0])
  have key : ∀ i (hi : i < m.length), i < lowP m (m[j].key ++ [0]) ↔ i ≤ j := by
    intro i hi
    rw [← lowP_iff h _ hi, bcmp_next]
    rcases Nat.lt_trichotomy i j with h2 | rfl | h2
    · have : bcmp m[i].key m[j].key < 0 := List.pairwise_iff_getElem.1 h i j hi hj h2
      omega
    · have := (bcmp_zero m[i].key m[i].key).2 rfl
      omega
    · have h3 : bcmp m[j].key m[i].key < 0 := List.pairwise_iff_getElem.1 h j i hj hi h2
      rw [bcmp_swap] at h3
      omega
  have h2 := (key j hj).2 (Nat.le_refl _)
  apply Classical.byContradiction
  intro hn
  have h3 : j + 1 < lowP m (m[j].key ++ [0]) := by omega
  have := (key (j + 1) (by omega)).1 h3
  omega
theorem scan_part (m : List PairE) (frm : List UInt8) (n : Nat) : scanE m frm [] (n : Int) false = (m.drop (lowP m frm)).take n := by
  unfold scanE dirP segP topP
  simp
theorem scan_all {m : List PairE} (h : SortedP m) (hl : m.length ≤ 1000) : scanE m [] [] 1000 false = m := by
  have := scan_part m [] 1000
  rw [lowP_nil h] at this
  rw [show (1000 : Int) = ((1000 : Nat) : Int) from rfl, this, List.drop_zero, List.take_of_length_le hl]

theorem part_step {m : List PairE} {c st : Nat} (hc : c < m.length) (hst : 0 < st) : ∃ j, ∃ hj : j < m.length, c ≤ j ∧ ((m.drop c).take st).length = j + 1 - c ∧ m.take c ++ (m.drop c).take st = m.take (j + 1) ∧ ∀ h : j - c < ((m.drop c).take st).length, ((m.drop c).take st)[j - c] = m[j] := by
  refine ⟨min (c + st) m.length - 1, by omega, by omega, by rw [List.length_take, List.length_drop]; omega, ?_, fun h => ?_⟩
  · have e1 : m.take (min (c + st) m.length - 1 + 1) = m.take (c + st) := by
      rw [show min (c + st) m.length - 1 + 1 = min (c + st) m.length from by omega]
      rcases Nat.le_total (c + st) m.length with h | h
      · rw [Nat.min_eq_left h]
      · rw [Nat.min_eq_right h, List.take_of_length_le (Nat.le_refl _), List.take_of_length_le h]
    rw [e1, List.take_add]
  · rw [List.getElem_take, List.getElem_drop]
    congr 1
    omega

/-! ### backwards -/
theorem scan_long (m : List PairE) (frm til : List UInt8) (back : Bool) (hl : m.length ≤ 1000) : scanE m frm til 1000 back = dirP m frm til back := by
  unfold scanE
  have h1 := dirP_length m frm til back
  have h2 := topP_le m til
  rw [List.take_of_length_le]
  rw [h1]
  omega
theorem dirP_back (m : List PairE) (frm til : List UInt8) : dirP m frm til true = (dirP m frm til false).reverse := rfl
theorem seg_low {m : List PairE} (h : SortedP m) {frm til : List UInt8} {x : PairE} (hx : x ∈ dirP m frm til false) : Op.bytesLess x.key frm = false ∧ (til.length ≠ 0 → Op.bytesLess x.key til = true) := by
  obtain ⟨j, hj, rfl⟩ := List.getElem_of_mem hx
  have hl := dirP_length m frm til false
  have ht := topP_le m til
  obtain ⟨h1, h2, h3⟩ := dirP_get (m := m) (frm := frm) (til := til) (back := false) (j := j) (by omega)
  rw [h3]
  have hix : ixP (lowP m frm) (topP m til) j false = lowP m frm + j := rfl
  simp only [hix] at h2 ⊢
  constructor
  · rw [Bool.eq_false_iff]
    intro hc
    have := (lowP_iff h frm h2).1 (bless_iff.1 hc)
    omega
  · intro h0
    refine bless_iff.2 ((lowP_iff h til h2).2 ?_)
    have : topP m til = lowP m til := if_neg h0
    omega
/-! ### above and below -/
theorem SortedE.inj {l : List Ent} (h : SortedE l) {x y : Ent} (hx : x ∈ l) (hy : y ∈ l) (he : x.key = y.key) : x = y := by
  obtain ⟨i, hi, rfl⟩ := List.getElem_of_mem hx
  obtain ⟨j, hj, rfl⟩ := List.getElem_of_mem hy
  rcases Nat.lt_trichotomy i j with h1 | rfl | h1
  · have h2 : kcmp l[i].key l[j].key < 0 := List.pairwise_iff_getElem.1 h i j hi hj h1
    rw [he] at h2
    exact absurd h2 (kcmp_irrefl _)
  · rfl
  · have h2 : kcmp l[j].key l[i].key < 0 := List.pairwise_iff_getElem.1 h j i hj hi h1
    rw [he] at h2
    exact absurd h2 (kcmp_irrefl _)
theorem mem_join {a b : List Ent} (ha : SortedE a) (hb : SortedE b) (fa : ∀ e ∈ a, fitE e = true) (fb : ∀ e ∈ b, fitE e = true) (ga : ∀ e ∈ a, 100 ≤ e.key.seq.toNat) (gb : ∀ e ∈ b, e.key.seq.toNat < 100) (e : Ent) : e ∈ sortE (a ++ b) ↔ e ∈ a ∨ e ∈ b := by
  rw [mem_sortE, List.mem_append]
  · intro x hx
    rcases List.mem_append.1 hx with h | h
    · exact fa x h
    · exact fb x h
  · intro x hx y hy he
    rcases List.mem_append.1 hx with h | h <;> rcases List.mem_append.1 hy with h' | h'
    · exact ha.inj h h' he
    · have h1 := ga x h
      have h2 := gb y h'
      rw [he] at h1; omega
    · have h1 := ga y h'
      have h2 := gb x h
      rw [he] at h2; omega
    · exact hb.inj h h' he
theorem below_lists {us ls : List Ent} (hus : ∀ e ∈ us, 100 ≤ e.key.seq.toNat) (hls : ∀ e ∈ ls, e.key.seq.toNat < 100) {L : List SpanE} {qs : List Nat} {q : Nat} (hq : q ∈ qs) :
    refSeen (sortE (sortE us ++ sortE ls)) L q = refSeen (sortE (keepE (sortE us) L false qs ++ sortE ls)) L q := by
  have hU := sortE_sorted us
  have hW := sortE_sorted ls
  have hfU : ∀ e ∈ sortE us, fitE e = true := fun e he => (sortE_fit he).2
  have hfW : ∀ e ∈ sortE ls, fitE e = true := fun e he => (sortE_fit he).2
  have hgU : ∀ e ∈ sortE us, 100 ≤ e.key.seq.toNat := fun e he => hus e (sortE_fit he).1
  have hgW : ∀ e ∈ sortE ls, e.key.seq.toNat < 100 := fun e he => hls e (sortE_fit he).1
  have hk : (keepE (sortE us) L false qs).Sublist (sortE us) := keepE_sub
  exact below_same hU hq (sortE_sorted _) (sortE_sorted _) (mem_join hU hW hfU hfW hgU hgW)
    (mem_join (hU.sub hk) hW (fun e he => hfU e (hk.subset he)) hfW (fun e he => hgU e (hk.subset he)) hgW)
/-! ### spans that were cut once -/
theorem cutS_cutS (s : SpanE) : cutS (cutS s) = cutS s := by
  unfold cutS
  simp [List.take_take]
theorem few_right (L : List SpanE) (n : Nat) : ((rightE ((L.take n).map cutS)).take n).map cutS = rightE ((L.take n).map cutS) := by
  have h1 := rightE_len ((L.take n).map cutS)
  rw [List.length_map, List.length_take] at h1
  rw [List.take_of_length_le (by omega)]
  conv => rhs; rw [← List.map_id (rightE ((L.take n).map cutS))]
  refine List.map_congr_left fun s hs => ?_
  have h2 : s ∈ (L.take n).map cutS := (List.mem_filter.1 hs).1
  obtain ⟨x, -, rfl⟩ := List.mem_map.1 h2
  exact cutS_cutS x
theorem sl_spanA {w : World} {F : Nat → Prop} {v : Value} {l : List SpanE} (h : Sl spanC w F v l) : Sl spanCA w F v l := by
  obtain ⟨A, cap, h1, h2, h3, h4, h5, h6⟩ := h
  refine ⟨A, cap, h1, h2, h3, Nat.le_trans h4 (by decide), h5, fun i hi => ?_⟩
  obtain ⟨b, off, cs, g1, g2, g3, u, v, g4, g5, g6⟩ := h6 i hi
  exact ⟨b, off, cs, g1, g2, g3, u, v, g4, Sl.toA g5, Sl.toA g6⟩
end Go.Proofs.Yteaanagljmcidaa
namespace Go.Proofs.Yteaanagljmcidaa
open Go.RowKit

attribute [local go_sem ↓] Go.wp_at_zero Go.wp_at_succ

/-- What the laws look at: versions in order, right spans. -/
def lawE (l : List Ent) : List Ent := sortE ((l.take 30).map cutE)
def lawS (l : List SpanE) : List SpanE := rightE ((l.take 14).map cutS)
theorem lawE_len (l : List Ent) : (lawE l).length ≤ 30 := Nat.le_trans (sortE_length _) (by rw [List.length_map, List.length_take]; omega)
theorem lawS_len (l : List SpanE) : (lawS l).length ≤ 14 := Nat.le_trans (rightE_len _) (by rw [List.length_map, List.length_take]; omega)
theorem lawE_sorted (l : List Ent) : SortedE (lawE l) := sortE_sorted _
theorem lawS_ok (l : List SpanE) : ∀ s ∈ lawS l, scheck s = 0 := rightE_ok
theorem seenE_length (l : List Ent) (L : List SpanE) (q : Nat) : (seenE l L q).length ≤ l.length := by
  unfold seenE
  rw [List.length_map]
  exact List.length_filter_le _ _
theorem seenE_keys {l : List Ent} {L : List SpanE} {q : Nat} {p : PairE} (h : p ∈ seenE (lawE l) L q) : p.key.length ≤ 80 := by
  unfold seenE at h
  obtain ⟨e, he, rfl⟩ := List.mem_map.1 h
  obtain ⟨x, -, rfl⟩ := List.mem_map.1 (sortE_fit (List.mem_filter.1 he).1).1
  show (x.key.user.take 80).length ≤ 80
  rw [List.length_take]
  omega
theorem Sl.one_of {α : Type} [Inhabited α] {c : Codec α} {w : World} {F : Nat → Prop} {A : Option Addr} {n cap : Nat} {l : List α} (h : Sl c w F (.slice A n cap) l) (i : Nat) (hi : i < l.length) : Sl c w F (.slice (if cap = i then A else A.map (·.add (i * c.size))) 1 (cap - i)) [l[i]] := by
  have h1 := (h.dropM i (by omega)).take 1 (by rw [List.length_drop]; omega)
  rw [List.drop_eq_getElem_cons hi, List.take_succ_cons, List.take_zero] at h1
  exact h1

theorem Sl.pair_of {w : World} {F : Nat → Prop} {A : Option Addr} {n cap : Nat} {l : List PairE} (h : Sl pairC w F (.slice A n cap) l) (i : Nat) (hi : i < l.length) : Sl pairC w F (.slice (if cap = i then A else Option.map (fun x => x.add (i * 2)) A) 1 (cap - i)) [l[i]] := h.one_of i hi
theorem Sl.pair_of2 {w : World} {F : Nat → Prop} {b off n cap : Nat} {l : List PairE} (h : Sl pairC w F (.slice (some ⟨b, off, none⟩) n cap) l) (i : Nat) (hi : i < l.length) : Sl pairC w F (.slice (if cap = i then some ⟨b, off, none⟩ else some ⟨b, off + i * 2, none⟩) 1 (cap - i)) [l[i]] := by
  have h1 := h.pair_of i hi
  have e : Option.map (fun x : Addr => x.add (i * 2)) (some ⟨b, off, none⟩) = some ⟨b, off + i * 2, none⟩ := by simp [Addr.add]
  rw [e] at h1
  exact h1

end Go.Proofs.Yteaanagljmcidaa
namespace Go.Proofs.Yteaanagljmcidaa
open Go.ChangeShapes Go.WideShapes Go.ChangeAt Go.RowKit
set_option maxRecDepth 100000

section
variable {H : Type} {enc : TypeId × Value → H} {w : World} {base : Nat} {spare : Nat → Bool} {held : Bool}

theorem add2 (b off i j : Nat) : ((⟨b, off, none⟩ : Addr).add i).add j = ⟨b, off + i + j, none⟩ := by
  have h : ∀ o n : Nat, (⟨b, o, none⟩ : Addr).add n = ⟨b, o + n, none⟩ := fun o n => by unfold Addr.add; split <;> simp_all
  rw [h, h]

theorem trod_sl {α : Type} [Inhabited α] {P : Program} {c : Codec α} {t e : TypeId} {fuel : Nat} {cs : List Value} {x : DataW H × List MemPlace} (ht : P.underlying t = some (.slice e)) (hc : P.cellsOf e = c.size) (hpos : 0 < c.size) (hb : c.bound = maxLen)
    (hel : ∀ n cs y, DataW.trod enc P w base spare held n e cs = some y → w.noneFrozen y.2 → ∃ a, c.rep w (fun _ => True) cs a)
    (h : DataW.trod enc P w base spare held fuel t cs = some x) (hz : w.noneFrozen x.2) : ∃ v l, cs = [v] ∧ Sl c w (fun _ => True) v l := by
  rcases Deep.open_slice ht h with ⟨rfl, _⟩ | ⟨a, len, cap, m, n, D, Pl, rfl, _, hl, hm, hmm, hpl, hx⟩
  · exact ⟨_, [], rfl, Sl.nil _ _ _⟩
  · have hle : len ≤ m := by rw [hmm]; split <;> omega
    obtain ⟨f, hf⟩ := Deep.choose_lt (n := len) (p := fun i y => ∃ cs', w.cells? base (a.add (i * P.cellsOf e)) (P.cellsOf e) = some cs' ∧ c.rep w (fun _ => True) cs' y) (fun i hi => by
      obtain ⟨cs', h1, h2⟩ := hx i (by omega)
      obtain ⟨y, hy⟩ := hel _ _ _ h2 (fun b off hp => hz b off (by rw [hpl]; exact List.mem_append_right _ (List.mem_flatMap.2 ⟨i, List.mem_range.2 (by omega), hp⟩)))
      exact ⟨y, cs', h1, hy⟩)
    have hlen : ((List.range len).map f).length = len := by simp
    refine ⟨_, (List.range len).map f, rfl, some a, cap, by rw [hlen], by omega, hm, by rw [hlen, hb]; omega, (fun h => by cases h), fun i hi => ?_⟩
    rw [hlen] at hi
    obtain ⟨cs', h1, h2⟩ := hf i hi
    obtain ⟨b, off, sp⟩ := a
    have hsp : sp = none := by
      obtain ⟨cs0, g1, g2⟩ := hf 0 (by omega)
      obtain ⟨_, g3, g4⟩ := World.cells?_some g1
      have g5 := g4 0 (by omega)
      rw [List.getElem?_eq_getElem (by rw [c.len g2]; exact hpos)] at g5
      simpa [Addr.add] using World.cell?_spot g5
    subst hsp
    obtain ⟨_, g3, g4⟩ := World.cells?_some h1
    have hcl := c.len h2
    refine ⟨b, off, cs', rfl, trivial, ⟨fun j u hu => ?_, fun j hj => ?_⟩, by simpa using h2⟩
    rotate_left
    · refine hz b _ ?_
      rw [hpl]
      refine List.mem_append_left _ (List.mem_map.2 ⟨i * c.size + j, List.mem_range.2 ?_, ?_⟩)
      · rw [hc]
        calc i * c.size + j < i * c.size + c.size := by omega
          _ = (i + 1) * c.size := by rw [Nat.add_mul, Nat.one_mul]
          _ ≤ m * c.size := Nat.mul_le_mul_right _ (by omega)
      · simp [Nat.add_assoc]
    have hj : j < cs'.length := (List.getElem?_eq_some_iff.1 hu).1
    have g5 := g4 j (by omega)
    rw [hu, hc, add2] at g5
    exact g5

theorem trod_byte {n : Nat} {cs : List Value} {y : DataW H × List MemPlace} (h : DataW.trod enc Try.prog w base spare held n 5 cs = some y) : ∃ a, byteCA.rep w (fun _ => True) cs a := by
  obtain ⟨z, rfl, _, hw⟩ := DataW.trod_int Try.underlying5 h
  refine ⟨UInt8.ofNat z.toNat, ?_⟩
  show [Value.int .u8 z] = [byteV _]
  have h2 : (0 : Int) ≤ z ∧ z ≤ 255 := by have := hw; unfold Lit.wf at this; rw [Bool.and_eq_true, decide_eq_true_iff, decide_eq_true_iff] at this; exact this
  unfold byteV
  congr 2
  rw [UInt8.toNat_ofNat']
  omega
theorem trod_bytes {n : Nat} {cs : List Value} {y : DataW H × List MemPlace} (h : DataW.trod enc Try.prog w base spare held n 27 cs = some y) (hz : w.noneFrozen y.2) : ∃ v l, cs = [v] ∧ BsA w (fun _ => True) v l :=
  trod_sl (c := byteCA) Try.underlying27 (by kernel_rfl) (by decide) rfl (fun _ _ _ h _ => trod_byte h) h hz
theorem trod_u64 {n : Nat} {cs : List Value} {y : DataW H × List MemPlace} (h : DataW.trod enc Try.prog w base spare held n 28 cs = some y) : ∃ a : UInt64, cs = [u64V a] := by
  obtain ⟨z, rfl, _, hw⟩ := DataW.trod_int Try.underlying28 h
  refine ⟨UInt64.ofNat z.toNat, ?_⟩
  have h2 : (0 : Int) ≤ z ∧ z ≤ 18446744073709551615 := by have := hw; unfold Lit.wf at this; rw [Bool.and_eq_true, decide_eq_true_iff, decide_eq_true_iff] at this; exact this
  unfold u64V
  congr 2
  rw [UInt64.toNat_ofNat']
  omega
theorem trod_u8 {n : Nat} {cs : List Value} {y : DataW H × List MemPlace} (h : DataW.trod enc Try.prog w base spare held n 5 cs = some y) : ∃ a : UInt8, cs = [byteV a] := trod_byte h

theorem none_of {xs : List (DataW H × List MemPlace)} {y : DataW H × List MemPlace} (hy : y = (.agg (xs.map (·.1)), xs.flatMap (·.2))) (hz : w.noneFrozen y.2) {i : Nat} (hi : i < xs.length) : w.noneFrozen xs[i].2 := fun b off hp => by
  rw [hy] at hz
  exact hz b off (List.mem_flatMap.2 ⟨xs[i], List.getElem_mem hi, hp⟩)
theorem cut3 {cs : List Value} (h : cs.length = 3) : cs = (cs.drop 0).take 1 ++ ((cs.drop 1).take 1 ++ (cs.drop 2).take 1) := by
  match cs, h with
  | [a, b, c], _ => rfl
theorem cut4 {cs : List Value} (h : cs.length = 4) : cs = (cs.drop 0).take 3 ++ (cs.drop 3).take 1 := by
  match cs, h with
  | [a, b, c, d], _ => rfl
theorem cut5 {cs : List Value} (h : cs.length = 5) : cs = (cs.drop 0).take 4 ++ (cs.drop 4).take 1 := by
  match cs, h with
  | [a, b, c, d, e], _ => rfl

theorem trod_key {n : Nat} {cs : List Value} {y : DataW H × List MemPlace} (h : DataW.trod enc Try.prog w base spare held n 30 cs = some y) (hz : w.noneFrozen y.2) : ∃ a, keyCA.rep w (fun _ => True) cs a := by
  obtain ⟨xs, m, rfl, hye, hl, hs, hf⟩ := DataW.trod_struct Try.underlying30 h
  have hl3 : cs.length = 3 := hl.trans (by kernel_rfl)
  have h0 := hf 0 _ rfl
  have h1 := hf 1 _ rfl
  have h2 := hf 2 _ rfl
  rw [List.getElem?_eq_getElem (by rw [hs]; decide)] at h0 h1 h2
  obtain ⟨u, l, e0, hb⟩ := trod_bytes h0 (none_of hye hz _)
  obtain ⟨s, e1⟩ := trod_u64 h1
  obtain ⟨k, e2⟩ := trod_u8 h2
  refine ⟨⟨l, s, k⟩, u, ?_, hb⟩
  have e := cut3 hl3
  rw [e]
  have e0' : (cs.drop 0).take 1 = [u] := e0
  have e1' : (cs.drop 1).take 1 = [u64V s] := e1
  have e2' : (cs.drop 2).take 1 = [byteV k] := e2
  rw [e0', e1', e2']; rfl
theorem trod_ent {n : Nat} {cs : List Value} {y : DataW H × List MemPlace} (h : DataW.trod enc Try.prog w base spare held n 32 cs = some y) (hz : w.noneFrozen y.2) : ∃ a, entCA.rep w (fun _ => True) cs a := by
  obtain ⟨xs, m, rfl, hye, hl, hs, hf⟩ := DataW.trod_struct Try.underlying32 h
  have hl4 : cs.length = 4 := hl.trans (by kernel_rfl)
  have h0 := hf 0 _ rfl
  have h1 := hf 1 _ rfl
  rw [List.getElem?_eq_getElem (by rw [hs]; decide)] at h0 h1
  obtain ⟨k, u, e0, hb⟩ := trod_key h0 (none_of hye hz _)
  obtain ⟨v, l, e1, hc⟩ := trod_bytes h1 (none_of hye hz _)
  refine ⟨⟨k, l⟩, u, v, ?_, hb, hc⟩
  have e := cut4 hl4
  rw [e]
  have e0' : (cs.drop 0).take 3 = [u, u64V k.seq, byteV k.kind] := e0
  have e1' : (cs.drop 3).take 1 = [v] := e1
  rw [e0', e1']; rfl
theorem trod_put {n : Nat} {cs : List Value} {y : DataW H × List MemPlace} (h : DataW.trod enc Try.prog w base spare held n 34 cs = some y) (hz : w.noneFrozen y.2) : ∃ a, putCA.rep w (fun _ => True) cs a := by
  obtain ⟨xs, m, rfl, hye, hl, hs, hf⟩ := DataW.trod_struct Try.underlying34 h
  have hl5 : cs.length = 5 := hl.trans (by kernel_rfl)
  have h0 := hf 0 _ rfl
  have h1 := hf 1 _ rfl
  rw [List.getElem?_eq_getElem (by rw [hs]; decide)] at h0 h1
  obtain ⟨k, u, v, e0, hb, hc⟩ := trod_ent h0 (none_of hye hz _)
  obtain ⟨z, e1, _, hw⟩ := DataW.trod_int Try.underlying3 h1
  have h2 : (-9223372036854775808 : Int) ≤ z ∧ z ≤ 9223372036854775807 := by have := hw; unfold Lit.wf at this; rw [Bool.and_eq_true, decide_eq_true_iff, decide_eq_true_iff] at this; exact this
  refine ⟨⟨k, z⟩, u, v, ?_, hb, hc, ?_, ?_⟩
  · have e := cut5 hl5
    rw [e]
    have e0' : (cs.drop 0).take 4 = [u, u64V k.key.seq, byteV k.key.kind, v] := e0
    have e1' : (cs.drop 4).take 1 = [.int .i64 z] := e1
    rw [e0', e1']; rfl
  · show _ ≤ z; omega
  · show z ≤ _; omega

theorem open_puts {r : Reach} {b0 : Nat} {v : Value} {d : DataW H} {ps : List MemPlace} (hval : Value.okWide Try.prog w r b0 22 v) (h : DataW.Trod enc Try.prog w base spare held 22 v d ps) (hz : w.noneFrozen ps) : ∃ l, Sl putCA w (fun _ => True) v l := by
  obtain ⟨a, len, cap, rfl⟩ := okWide_slice Try.underlying22 hval
  obtain ⟨n, h⟩ := h
  obtain ⟨v', l, e, hs⟩ := trod_sl (c := putCA) Try.underlying22 (by kernel_rfl) (by decide) rfl (fun _ _ _ h hz => trod_put h hz) h hz
  have : v' = .slice a len cap := by simpa [Value.cells] using e.symm
  exact ⟨l, this ▸ hs⟩
theorem open_bytes {r : Reach} {b0 : Nat} {v : Value} {d : DataW H} {ps : List MemPlace} (hval : Value.okWide Try.prog w r b0 27 v) (h : DataW.Trod enc Try.prog w base spare held 27 v d ps) (hz : w.noneFrozen ps) : ∃ l, BsA w (fun _ => True) v l := by
  obtain ⟨a, len, cap, rfl⟩ := okWide_slice Try.underlying27 hval
  obtain ⟨n, h⟩ := h
  obtain ⟨v', l, e, hs⟩ := trod_bytes h hz
  have : v' = .slice a len cap := by simpa [Value.cells] using e.symm
  exact ⟨l, this ▸ hs⟩
theorem open_u8 {r : Reach} {b0 : Nat} {v : Value} {d : DataW H} {ps : List MemPlace} (hval : Value.okWide Try.prog w r b0 5 v) (h : DataW.Trod enc Try.prog w base spare held 5 v d ps) : ∃ a : UInt8, v = byteV a := by
  obtain ⟨z, rfl⟩ := okWide_int Try.underlying5 hval
  obtain ⟨n, h⟩ := h
  obtain ⟨a, e⟩ := trod_u8 h
  exact ⟨a, by simpa [Value.cells] using e⟩
end
end Go.Proofs.Yteaanagljmcidaa
namespace Go.Proofs.Yteaanagljmcidaa
open Go.ChangeShapes Go.WideShapes Go.ChangeAt Go.RowKit
set_option maxRecDepth 100000

/-- Lists of entries, however long: an argument's. -/
def listCA : Codec (List Ent) := { slC entCA (by decide) with bound := maxLen, bpos := by decide }
/-- A step. -/
structure GoE where
  op : UInt8
  k : Key
  deriving Inhabited
def goCA : Codec GoE where
  size := 4
  rep w F cs p := ∃ u, cs = [byteV p.op, u, u64V p.k.seq, byteV p.k.kind] ∧ BsA w F u p.k.user
  len := fun ⟨_, h, _⟩ => by rw [h]; rfl
  one := fun ⟨u, h, hb⟩ x hx => by
    rw [h] at hx; obtain ⟨A, cap, rfl, _⟩ := hb.form
    simp only [List.mem_cons, List.not_mem_nil, or_false] at hx
    rcases hx with rfl | rfl | rfl | rfl <;> rfl
  frame := fun ⟨u, h, hb⟩ hF => ⟨u, h, hb.frame hF⟩
  mono := fun ⟨u, h, hb⟩ hF => ⟨u, h, hb.mono hF (.inl (by decide))⟩
  bound := maxLen
  bpos := by decide

section
variable {H : Type} {enc : TypeId × Value → H} {w : World} {base : Nat} {spare : Nat → Bool} {held : Bool}

theorem open_bool {r : Reach} {b0 : Nat} {v : Value} (hval : Value.okWide Try.prog w r b0 4 v) : ∃ b, v = .bool b := okWide_bool Try.underlying4 hval
theorem open_u64 {r : Reach} {b0 : Nat} {v : Value} {d : DataW H} {ps : List MemPlace} (hval : Value.okWide Try.prog w r b0 28 v) (h : DataW.Trod enc Try.prog w base spare held 28 v d ps) : ∃ a : UInt64, v = u64V a := by
  obtain ⟨z, rfl⟩ := okWide_int Try.underlying28 hval
  obtain ⟨n, h⟩ := h
  obtain ⟨a, e⟩ := trod_u64 h
  exact ⟨a, by simpa [Value.cells] using e⟩
theorem open_keys {r : Reach} {b0 : Nat} {v : Value} {d : DataW H} {ps : List MemPlace} (hval : Value.okWide Try.prog w r b0 37 v) (h : DataW.Trod enc Try.prog w base spare held 37 v d ps) (hz : w.noneFrozen ps) : ∃ l, Sl keyCA w (fun _ => True) v l := by
  obtain ⟨a, len, cap, rfl⟩ := okWide_slice Try.underlying37 hval
  obtain ⟨n, h⟩ := h
  obtain ⟨v', l, e, hs⟩ := trod_sl (c := keyCA) Try.underlying37 (by kernel_rfl) (by decide) rfl (fun _ _ _ h hz => trod_key h hz) h hz
  have : v' = .slice a len cap := by simpa [Value.cells] using e.symm
  exact ⟨l, this ▸ hs⟩
theorem trod_ents {n : Nat} {cs : List Value} {y : DataW H × List MemPlace} (h : DataW.trod enc Try.prog w base spare held n 43 cs = some y) (hz : w.noneFrozen y.2) : ∃ v l, cs = [v] ∧ Sl entCA w (fun _ => True) v l :=
  trod_sl (c := entCA) Try.underlying43 (by kernel_rfl) (by decide) rfl (fun _ _ _ h hz => trod_ent h hz) h hz
theorem open_ents {r : Reach} {b0 : Nat} {v : Value} {d : DataW H} {ps : List MemPlace} (hval : Value.okWide Try.prog w r b0 43 v) (h : DataW.Trod enc Try.prog w base spare held 43 v d ps) (hz : w.noneFrozen ps) : ∃ l, Sl entCA w (fun _ => True) v l := by
  obtain ⟨a, len, cap, rfl⟩ := okWide_slice Try.underlying43 hval
  obtain ⟨n, h⟩ := h
  obtain ⟨v', l, e, hs⟩ := trod_ents h hz
  have : v' = .slice a len cap := by simpa [Value.cells] using e.symm
  exact ⟨l, this ▸ hs⟩
theorem open_lists {r : Reach} {b0 : Nat} {v : Value} {d : DataW H} {ps : List MemPlace} (hval : Value.okWide Try.prog w r b0 62 v) (h : DataW.Trod enc Try.prog w base spare held 62 v d ps) (hz : w.noneFrozen ps) : ∃ l, Sl listCA w (fun _ => True) v l := by
  obtain ⟨a, len, cap, rfl⟩ := okWide_slice Try.underlying62 hval
  obtain ⟨n, h⟩ := h
  obtain ⟨v', l, e, hs⟩ := trod_sl (c := listCA) Try.underlying62 (by kernel_rfl) (by decide) rfl (fun _ cs _ h hz => (by
    obtain ⟨x, m, e, hs⟩ := trod_ents h hz
    exact ⟨m, x, e, hs⟩)) h hz
  have : v' = .slice a len cap := by simpa [Value.cells] using e.symm
  exact ⟨l, this ▸ hs⟩
theorem cut13 {cs : List Value} (h : cs.length = 4) : cs = (cs.drop 0).take 1 ++ (cs.drop 1).take 3 := by
  match cs, h with
  | [a, b, c, d], _ => rfl
theorem trod_go {n : Nat} {cs : List Value} {y : DataW H × List MemPlace} (h : DataW.trod enc Try.prog w base spare held n 72 cs = some y) (hz : w.noneFrozen y.2) : ∃ a, goCA.rep w (fun _ => True) cs a := by
  obtain ⟨xs, m, rfl, hye, hl, hs, hf⟩ := DataW.trod_struct Try.underlying72 h
  have hl4 : cs.length = 4 := hl.trans (by kernel_rfl)
  have h0 := hf 0 _ rfl
  have h1 := hf 1 _ rfl
  rw [List.getElem?_eq_getElem (by rw [hs]; decide)] at h0 h1
  obtain ⟨b, e0⟩ := trod_u8 h0
  obtain ⟨k, u, e1, hb⟩ := trod_key h1 (none_of hye hz _)
  refine ⟨⟨b, k⟩, u, ?_, hb⟩
  have e := cut13 hl4
  rw [e]
  have e0' : (cs.drop 0).take 1 = [byteV b] := e0
  have e1' : (cs.drop 1).take 3 = [u, u64V k.seq, byteV k.kind] := e1
  rw [e0', e1']; rfl
theorem open_steps {r : Reach} {b0 : Nat} {v : Value} {d : DataW H} {ps : List MemPlace} (hval : Value.okWide Try.prog w r b0 63 v) (h : DataW.Trod enc Try.prog w base spare held 63 v d ps) (hz : w.noneFrozen ps) : ∃ l, Sl goCA w (fun _ => True) v l := by
  obtain ⟨a, len, cap, rfl⟩ := okWide_slice Try.underlying63 hval
  obtain ⟨n, h⟩ := h
  obtain ⟨v', l, e, hs⟩ := trod_sl (c := goCA) Try.underlying63 (by kernel_rfl) (by decide) rfl (fun _ _ _ h hz => trod_go h hz) h hz
  have : v' = .slice a len cap := by simpa [Value.cells] using e.symm
  exact ⟨l, this ▸ hs⟩
theorem open_key {r : Reach} {b0 : Nat} {v : Value} {d : DataW H} {ps : List MemPlace} (hval : Value.okWide Try.prog w r b0 30 v) (h : DataW.Trod enc Try.prog w base spare held 30 v d ps) (hz : w.noneFrozen ps) : ∃ (u : Value) (k : Key), v = .agg #[u, u64V k.seq, byteV k.kind] ∧ BsA w (fun _ => True) u k.user := by
  obtain ⟨cs, rfl, hs⟩ := okWide_struct Try.underlying30 hval
  obtain ⟨n, h⟩ := h
  obtain ⟨k, u, e, hb⟩ := trod_key h hz
  have : cs = #[u, u64V k.seq, byteV k.kind] := by
    have e2 : cs.toList = [u, u64V k.seq, byteV k.kind] := by simpa [Value.cells] using e
    rw [← e2, Array.toArray_toList]
  exact ⟨u, k, by rw [this], hb⟩
theorem r4 : Try.prog.readableRec 4 = true := by kernel_rfl
theorem s4 : 4 < Try.prog.types.size := of_decide_eq_true (by kernel_rfl)
theorem r28 : Try.prog.readableRec 28 = true := by kernel_rfl
theorem s28 : 28 < Try.prog.types.size := of_decide_eq_true (by kernel_rfl)
theorem r30 : Try.prog.readableRec 30 = true := by kernel_rfl
theorem s30 : 30 < Try.prog.types.size := of_decide_eq_true (by kernel_rfl)
theorem r37 : Try.prog.readableRec 37 = true := by kernel_rfl
theorem s37 : 37 < Try.prog.types.size := of_decide_eq_true (by kernel_rfl)
theorem r43 : Try.prog.readableRec 43 = true := by kernel_rfl
theorem s43 : 43 < Try.prog.types.size := of_decide_eq_true (by kernel_rfl)
theorem r62 : Try.prog.readableRec 62 = true := by kernel_rfl
theorem s62 : 62 < Try.prog.types.size := of_decide_eq_true (by kernel_rfl)
theorem r63 : Try.prog.readableRec 63 = true := by kernel_rfl
theorem s63 : 63 < Try.prog.types.size := of_decide_eq_true (by kernel_rfl)
end
end Go.Proofs.Yteaanagljmcidaa
namespace Go.Proofs.Yteaanagljmcidaa
open Go.ChangeShapes Go.WideShapes Go.ChangeAt Go.RowKit
set_option maxRecDepth 100000

section
variable {H : Type} {enc : TypeId × Value → H} {w : World} {base : Nat} {spare : Nat → Bool} {held : Bool}

theorem trod_op {n : Nat} {cs : List Value} {y : DataW H × List MemPlace} (h : DataW.trod enc Try.prog w base spare held n 112 cs = some y) (hz : w.noneFrozen y.2) : ∃ a, opCA.rep w (fun _ => True) cs a := by
  obtain ⟨xs, m, rfl, hye, hl, hs, hf⟩ := DataW.trod_struct Try.underlying112 h
  have hl3 : cs.length = 3 := hl.trans (by kernel_rfl)
  have h0 := hf 0 _ rfl
  have h1 := hf 1 _ rfl
  have h2 := hf 2 _ rfl
  rw [List.getElem?_eq_getElem (by rw [hs]; decide)] at h0 h1 h2
  obtain ⟨k, e0⟩ := trod_u8 h0
  obtain ⟨u, l, e1, hb⟩ := trod_bytes h1 (none_of hye hz _)
  obtain ⟨v, l2, e2, hc⟩ := trod_bytes h2 (none_of hye hz _)
  refine ⟨⟨k, l, l2⟩, u, v, ?_, hb, hc⟩
  have e := cut3 hl3
  rw [e]
  have e0' : (cs.drop 0).take 1 = [byteV k] := e0
  have e1' : (cs.drop 1).take 1 = [u] := e1
  have e2' : (cs.drop 2).take 1 = [v] := e2
  rw [e0', e1', e2']; rfl
theorem trod_ops {n : Nat} {cs : List Value} {y : DataW H × List MemPlace} (h : DataW.trod enc Try.prog w base spare held n 101 cs = some y) (hz : w.noneFrozen y.2) : ∃ v l, cs = [v] ∧ Sl opCA w (fun _ => True) v l :=
  trod_sl (c := opCA) Try.underlying101 (by kernel_rfl) (by decide) rfl (fun _ _ _ h hz => trod_op h hz) h hz
theorem open_ops {r : Reach} {b0 : Nat} {v : Value} {d : DataW H} {ps : List MemPlace} (hval : Value.okWide Try.prog w r b0 101 v) (h : DataW.Trod enc Try.prog w base spare held 101 v d ps) (hz : w.noneFrozen ps) : ∃ l, Sl opCA w (fun _ => True) v l := by
  obtain ⟨a, len, cap, rfl⟩ := okWide_slice Try.underlying101 hval
  obtain ⟨n, h⟩ := h
  obtain ⟨v', l, e, hs⟩ := trod_ops h hz
  have : v' = .slice a len cap := by simpa [Value.cells] using e.symm
  exact ⟨l, this ▸ hs⟩
theorem r101 : Try.prog.readableRec 101 = true := by kernel_rfl
theorem s101 : 101 < Try.prog.types.size := of_decide_eq_true (by kernel_rfl)
end
end Go.Proofs.Yteaanagljmcidaa
namespace Go.Proofs.Yteaanagljmcidaa
open Go.ChangeShapes Go.WideShapes Go.ChangeAt Go.RowKit
set_option maxRecDepth 100000

def intCA : Codec Int := { intC with bound := maxLen, bpos := by decide }
def u64CA : Codec UInt64 := { u64C with bound := maxLen, bpos := by decide }
def bytesCA : Codec (List UInt8) := { slC byteCA (by decide) with bound := maxLen, bpos := by decide }
/-- A step of a script. -/
structure StepE where
  alone : Bool
  ops : List OpE
  seq : UInt64
  hts : List Int
  deriving Inhabited
def stepCA : Codec StepE where
  size := 4
  rep w F cs s := ∃ u v, cs = [.bool s.alone, u, u64V s.seq, v] ∧ Sl opCA w F u s.ops ∧ Sl intCA w F v s.hts
  len := fun ⟨_, _, h, _⟩ => by rw [h]; rfl
  one := fun ⟨u, v, h, hb, hc⟩ x hx => by
    rw [h] at hx; obtain ⟨A, cap, rfl, _⟩ := hb.form; obtain ⟨A', cap', rfl, _⟩ := hc.form
    simp only [List.mem_cons, List.not_mem_nil, or_false] at hx
    rcases hx with rfl | rfl | rfl | rfl <;> rfl
  frame := fun ⟨u, v, h, hb, hc⟩ hF => ⟨u, v, h, hb.frame hF, hc.frame hF⟩
  mono := fun ⟨u, v, h, hb, hc⟩ hF => ⟨u, v, h, hb.mono hF (.inl (by decide)), hc.mono hF (.inl (by decide))⟩
  bound := maxLen
  bpos := by decide
theorem Sl.step {w : World} {F : Nat → Prop} {A : Option Addr} {n cap : Nat} {l : List StepE} (h : Sl stepCA w F (.slice A n cap) l) (i : Nat) (hi : i < l.length) :
    ∃ b off u v, A = some ⟨b, off, none⟩ ∧ F b ∧ w.cell? ⟨b, off + i * 4, none⟩ = some (.bool l[i].alone) ∧ w.cell? ⟨b, off + i * 4 + 1, none⟩ = some u ∧ w.cell? ⟨b, off + i * 4 + 2, none⟩ = some (u64V l[i].seq) ∧ w.cell? ⟨b, off + i * 4 + 3, none⟩ = some v ∧ Sl opCA w F u l[i].ops ∧ Sl intCA w F v l[i].hts := by
  obtain ⟨b, off, cs, hA, hF, hat, u, v, rfl, h1, h2⟩ := h.get i hi
  exact ⟨b, off, u, v, hA, hF, hat 0 _ rfl, hat 1 _ rfl, hat 2 _ rfl, hat 3 _ rfl, h1, h2⟩

section
variable {H : Type} {enc : TypeId × Value → H} {w : World} {base : Nat} {spare : Nat → Bool} {held : Bool}

theorem trod_i64 {n : Nat} {cs : List Value} {y : DataW H × List MemPlace} (h : DataW.trod enc Try.prog w base spare held n 3 cs = some y) : ∃ a, intCA.rep w (fun _ => True) cs a := by
  obtain ⟨z, e1, _, hw⟩ := DataW.trod_int Try.underlying3 h
  have h2 : (-9223372036854775808 : Int) ≤ z ∧ z ≤ 9223372036854775807 := by have := hw; unfold Lit.wf at this; rw [Bool.and_eq_true, decide_eq_true_iff, decide_eq_true_iff] at this; exact this
  exact ⟨z, e1, h2.1, h2.2⟩
theorem trod_ints {n : Nat} {cs : List Value} {y : DataW H × List MemPlace} (h : DataW.trod enc Try.prog w base spare held n 54 cs = some y) (hz : w.noneFrozen y.2) : ∃ v l, cs = [v] ∧ Sl intCA w (fun _ => True) v l :=
  trod_sl (c := intCA) Try.underlying54 (by kernel_rfl) (by decide) rfl (fun _ _ _ h _ => trod_i64 h) h hz
theorem trod_u64A {n : Nat} {cs : List Value} {y : DataW H × List MemPlace} (h : DataW.trod enc Try.prog w base spare held n 28 cs = some y) : ∃ a, u64CA.rep w (fun _ => True) cs a := trod_u64 h
theorem cut4a {cs : List Value} (h : cs.length = 4) : cs = (cs.drop 0).take 1 ++ ((cs.drop 1).take 1 ++ ((cs.drop 2).take 1 ++ (cs.drop 3).take 1)) := by
  match cs, h with
  | [a, b, c, d], _ => rfl
theorem trod_boolA {n : Nat} {cs : List Value} {y : DataW H × List MemPlace} (h : DataW.trod enc Try.prog w base spare held n 4 cs = some y) : ∃ b, cs = [Value.bool b] := by
  obtain ⟨b, e, -⟩ := DataW.trod_bool Try.underlying4 h
  exact ⟨b, e⟩
theorem trod_step {n : Nat} {cs : List Value} {y : DataW H × List MemPlace} (h : DataW.trod enc Try.prog w base spare held n 185 cs = some y) (hz : w.noneFrozen y.2) : ∃ a, stepCA.rep w (fun _ => True) cs a := by
  obtain ⟨xs, m, rfl, hye, hl, hs, hf⟩ := DataW.trod_struct Try.underlying185 h
  have hl4 : cs.length = 4 := hl.trans (by kernel_rfl)
  have h0 := hf 0 _ rfl
  have h1 := hf 1 _ rfl
  have h2 := hf 2 _ rfl
  have h3 := hf 3 _ rfl
  rw [List.getElem?_eq_getElem (by rw [hs]; decide)] at h0 h1 h2 h3
  obtain ⟨k, e0⟩ := trod_boolA h0
  obtain ⟨u, l, e1, hb⟩ := trod_ops h1 (none_of hye hz _)
  obtain ⟨q, e2⟩ := trod_u64 h2
  obtain ⟨v, l2, e3, hc⟩ := trod_ints h3 (none_of hye hz _)
  refine ⟨⟨k, l, q, l2⟩, u, v, ?_, hb, hc⟩
  have e := cut4a hl4
  rw [e]
  have e0' : (cs.drop 0).take 1 = [.bool k] := e0
  have e1' : (cs.drop 1).take 1 = [u] := e1
  have e2' : (cs.drop 2).take 1 = [u64V q] := e2
  have e3' : (cs.drop 3).take 1 = [v] := e3
  rw [e0', e1', e2', e3']; rfl
theorem open_opsteps {r : Reach} {b0 : Nat} {v : Value} {d : DataW H} {ps : List MemPlace} (hval : Value.okWide Try.prog w r b0 97 v) (h : DataW.Trod enc Try.prog w base spare held 97 v d ps) (hz : w.noneFrozen ps) : ∃ l, Sl stepCA w (fun _ => True) v l := by
  obtain ⟨a, len, cap, rfl⟩ := okWide_slice Try.underlying97 hval
  obtain ⟨n, h⟩ := h
  obtain ⟨v', l, e, hs⟩ := trod_sl (c := stepCA) Try.underlying97 (by kernel_rfl) (by decide) rfl (fun _ _ _ h hz => trod_step h hz) h hz
  have : v' = .slice a len cap := by simpa [Value.cells] using e.symm
  exact ⟨l, this ▸ hs⟩
theorem open_u64s {r : Reach} {b0 : Nat} {v : Value} {d : DataW H} {ps : List MemPlace} (hval : Value.okWide Try.prog w r b0 83 v) (h : DataW.Trod enc Try.prog w base spare held 83 v d ps) (hz : w.noneFrozen ps) : ∃ l, Sl u64CA w (fun _ => True) v l := by
  obtain ⟨a, len, cap, rfl⟩ := okWide_slice Try.underlying83 hval
  obtain ⟨n, h⟩ := h
  obtain ⟨v', l, e, hs⟩ := trod_sl (c := u64CA) Try.underlying83 (by kernel_rfl) (by decide) rfl (fun _ _ _ h _ => trod_u64A h) h hz
  have : v' = .slice a len cap := by simpa [Value.cells] using e.symm
  exact ⟨l, this ▸ hs⟩
theorem open_bytess {r : Reach} {b0 : Nat} {v : Value} {d : DataW H} {ps : List MemPlace} (hval : Value.okWide Try.prog w r b0 116 v) (h : DataW.Trod enc Try.prog w base spare held 116 v d ps) (hz : w.noneFrozen ps) : ∃ l, Sl bytesCA w (fun _ => True) v l := by
  obtain ⟨a, len, cap, rfl⟩ := okWide_slice Try.underlying116 hval
  obtain ⟨n, h⟩ := h
  obtain ⟨v', l, e, hs⟩ := trod_sl (c := bytesCA) Try.underlying116 (by kernel_rfl) (by decide) rfl (fun _ cs _ h hz => (by
    obtain ⟨x, m, e, hs⟩ := trod_bytes h hz
    exact ⟨m, x, e, hs⟩)) h hz
  have : v' = .slice a len cap := by simpa [Value.cells] using e.symm
  exact ⟨l, this ▸ hs⟩
theorem open_op {r : Reach} {b0 : Nat} {v : Value} {d : DataW H} {ps : List MemPlace} (hval : Value.okWide Try.prog w r b0 112 v) (h : DataW.Trod enc Try.prog w base spare held 112 v d ps) (hz : w.noneFrozen ps) : ∃ (u x : Value) (o : OpE), v = .agg #[byteV o.kind, u, x] ∧ BsA w (fun _ => True) u o.key ∧ BsA w (fun _ => True) x o.val := by
  obtain ⟨cs, rfl, hs⟩ := okWide_struct Try.underlying112 hval
  obtain ⟨n, h⟩ := h
  obtain ⟨o, u, x, e, hu, hx⟩ := trod_op h hz
  have : cs = #[byteV o.kind, u, x] := by
    have e2 : cs.toList = [byteV o.kind, u, x] := by simpa [Value.cells] using e
    rw [← e2, Array.toArray_toList]
  exact ⟨u, x, o, by rw [this], hu, hx⟩
theorem r97 : Try.prog.readableRec 97 = true := by kernel_rfl
theorem s97 : 97 < Try.prog.types.size := of_decide_eq_true (by kernel_rfl)
theorem r83 : Try.prog.readableRec 83 = true := by kernel_rfl
theorem s83 : 83 < Try.prog.types.size := of_decide_eq_true (by kernel_rfl)
theorem r116 : Try.prog.readableRec 116 = true := by kernel_rfl
theorem s116 : 116 < Try.prog.types.size := of_decide_eq_true (by kernel_rfl)
theorem r112 : Try.prog.readableRec 112 = true := by kernel_rfl
theorem s112 : 112 < Try.prog.types.size := of_decide_eq_true (by kernel_rfl)
end
end Go.Proofs.Yteaanagljmcidaa
namespace Go.Proofs.Yteaanagljmcidaa
open Go.ChangeShapes Go.WideShapes Go.ChangeAt Go.RowKit
set_option maxRecDepth 100000

section
variable {H : Type} {enc : TypeId × Value → H} {w : World} {base : Nat} {spare : Nat → Bool} {held : Bool}

theorem trod_span {n : Nat} {cs : List Value} {y : DataW H × List MemPlace} (h : DataW.trod enc Try.prog w base spare held n 92 cs = some y) (hz : w.noneFrozen y.2) : ∃ a, spanCA.rep w (fun _ => True) cs a := by
  obtain ⟨xs, m, rfl, hye, hl, hs, hf⟩ := DataW.trod_struct Try.underlying92 h
  have hl3 : cs.length = 3 := hl.trans (by kernel_rfl)
  have h0 := hf 0 _ rfl
  have h1 := hf 1 _ rfl
  have h2 := hf 2 _ rfl
  rw [List.getElem?_eq_getElem (by rw [hs]; decide)] at h0 h1 h2
  obtain ⟨u, l, e0, hb⟩ := trod_bytes h0 (none_of hye hz _)
  obtain ⟨v, l2, e1, hc⟩ := trod_bytes h1 (none_of hye hz _)
  obtain ⟨q, e2⟩ := trod_u64 h2
  refine ⟨⟨l, l2, q⟩, u, v, ?_, hb, hc⟩
  have e := cut3 hl3
  rw [e]
  have e0' : (cs.drop 0).take 1 = [u] := e0
  have e1' : (cs.drop 1).take 1 = [v] := e1
  have e2' : (cs.drop 2).take 1 = [u64V q] := e2
  rw [e0', e1', e2']; rfl
theorem open_spans {r : Reach} {b0 : Nat} {v : Value} {d : DataW H} {ps : List MemPlace} (hval : Value.okWide Try.prog w r b0 82 v) (h : DataW.Trod enc Try.prog w base spare held 82 v d ps) (hz : w.noneFrozen ps) : ∃ l, Sl spanCA w (fun _ => True) v l := by
  obtain ⟨a, len, cap, rfl⟩ := okWide_slice Try.underlying82 hval
  obtain ⟨n, h⟩ := h
  obtain ⟨v', l, e, hs⟩ := trod_sl (c := spanCA) Try.underlying82 (by kernel_rfl) (by decide) rfl (fun _ _ _ h hz => trod_span h hz) h hz
  have : v' = .slice a len cap := by simpa [Value.cells] using e.symm
  exact ⟨l, this ▸ hs⟩
theorem r82 : Try.prog.readableRec 82 = true := by kernel_rfl
theorem s82 : 82 < Try.prog.types.size := of_decide_eq_true (by kernel_rfl)
end
section
variable {H : Type} {enc : TypeId × Value → H} {P : Program} {w : World} {base : Nat} {spare : Nat → Bool} {held : Bool}
theorem trodAll_five {t t' t'' t3 t4 : TypeId} {args : Array Value} {ds : List (DataW H)} {ps : List MemPlace} (h : DataW.TrodAll enc P w base spare held [t, t', t'', t3, t4] args.toList ds ps) :
    ∃ v v' v'' v3 v4 d d' d'' d3 d4 p p' p'' p3 p4, args = #[v, v', v'', v3, v4] ∧ ds = [d, d', d'', d3, d4] ∧ ps = p ++ p' ++ p'' ++ p3 ++ p4 ∧ DataW.Trod enc P w base spare held t v d p ∧ DataW.Trod enc P w base spare held t' v' d' p' ∧ DataW.Trod enc P w base spare held t'' v'' d'' p'' ∧ DataW.Trod enc P w base spare held t3 v3 d3 p3 ∧ DataW.Trod enc P w base spare held t4 v4 d4 p4 := by
  obtain ⟨v, vs, d, ds', p, q, hargs, rfl, rfl, hd, hrest⟩ := trodAll_cons h
  obtain ⟨v', vs', d', ds'', p', q', rfl, rfl, rfl, hd', hrest'⟩ := trodAll_cons hrest
  obtain ⟨v'', vs'', d'', ds''', p'', q'', rfl, rfl, rfl, hd'', hrest''⟩ := trodAll_cons hrest'
  obtain ⟨v3, vs3, d3, ds3, p3, q3, rfl, rfl, rfl, hd3, hrest3⟩ := trodAll_cons hrest''
  obtain ⟨v4, vs4, d4, ds4, p4, q4, rfl, rfl, rfl, hd4, hrest4⟩ := trodAll_cons hrest3
  obtain ⟨rfl, rfl, rfl⟩ := trodAll_nil hrest4
  exact ⟨v, v', v'', v3, v4, d, d', d'', d3, d4, p, p', p'', p3, p4, by cases args; simp_all, rfl, by simp, hd, hd', hd'', hd3, hd4⟩
theorem trodAll_mk5 {t t' t'' t3 t4 : TypeId} {v v' v'' v3 v4 : Value} {d d' d'' d3 d4 : DataW H} {p p' p'' p3 p4 : List MemPlace} (h : DataW.Trod enc P w base spare held t v d p) (h' : DataW.Trod enc P w base spare held t' v' d' p')
    (h'' : DataW.Trod enc P w base spare held t'' v'' d'' p'') (h3 : DataW.Trod enc P w base spare held t3 v3 d3 p3) (h4 : DataW.Trod enc P w base spare held t4 v4 d4 p4) : DataW.TrodAll enc P w base spare held [t, t', t'', t3, t4] [v, v', v'', v3, v4] [d, d', d'', d3, d4] (p ++ (p' ++ (p'' ++ (p3 ++ p4)))) := ⟨p, p' ++ (p'' ++ (p3 ++ p4)), h, trodAll_mk4 h' h'' h3 h4, rfl⟩
end
end Go.Proofs.Yteaanagljmcidaa
namespace Go.Proofs.Yteaanagljmcidaa
open Go.ChangeShapes Go.WideShapes Go.ChangeAt Go.RowKit
set_option maxRecDepth 100000

theorem Try.own : ownKnob Try.prog.godebug = none := by kernel_rfl
theorem Try.laidOut : laidOutB Try.prog = true := by kernel_rfl

theorem words_of {P : Program} {l : List Char} (h : P.initOrder = String.ofList l) {w : List Char} (hw : (behindMainWord (wordsSigns l)).head? = some w) : ∃ ws, behindMainWord (wordsSigns P.initOrder.toList) = w :: ws := by
  rw [h, String.toList_ofList]
  cases hb : behindMainWord (wordsSigns l) with
  | nil => rw [hb] at hw; cases hw
  | cons a ws => rw [hb] at hw; injection hw with hw; exact ⟨ws, by rw [hw]⟩
theorem cut_strip (ws : List (List Char)) : stripLifts liftWords ("cut".toList :: ws) = ([], "cut".toList :: ws) := by kernel_rfl
theorem may_of {P : Program} {ws : List (List Char)} (hw : behindMainWord (wordsSigns P.initOrder.toList) = "cut".toList :: ws) (h1 : P.laysLater = false) (h2 : P.bearsReflect = false) (h3 : P.doorFits [] = true) : P.mayEnter = true := by
  unfold Program.mayEnter
  rw [hw]
  simp only [cut_strip, h1, h2, h3]
  simp
theorem head_of {P : Program} {ws : List (List Char)} (hw : behindMainWord (wordsSigns P.initOrder.toList) = "cut".toList :: ws) : P.headLifts = [] := by
  unfold Program.headLifts
  rw [hw, cut_strip]
  kernel_rfl
theorem fin_of {P : Program} {ws : List (List Char)} (hw : behindMainWord (wordsSigns P.initOrder.toList) = "cut".toList :: ws) : P.liftsFinal = false := by
  unfold Program.liftsFinal
  rw [hw, head_of hw]
  kernel_rfl
theorem make_of {P : Program} {ws : List (List Char)} (hw : behindMainWord (wordsSigns P.initOrder.toList) = "cut".toList :: ws) : P.make = some .cut := by
  unfold Program.make
  rw [hw]
  kernel_rfl
theorem Try.words : ∃ ws, behindMainWord (wordsSigns Try.prog.initOrder.toList) = "cut".toList :: ws := words_of rfl (by kernel_rfl)
theorem Try.laysLater : Try.prog.laysLater = false := by kernel_rfl
theorem Try.bearsReflect : Try.prog.bearsReflect = false := by kernel_rfl
theorem Try.doorFits : Try.prog.doorFits [] = true := by kernel_rfl
theorem Try.mayEnter : Try.prog.mayEnter = true := let ⟨_, hw⟩ := Try.words; may_of hw Try.laysLater Try.bearsReflect Try.doorFits
theorem Try.liftsFinal : Try.prog.liftsFinal = false := let ⟨_, hw⟩ := Try.words; fin_of hw
theorem Try.make : Try.prog.make = some .cut := let ⟨_, hw⟩ := Try.words; make_of hw
theorem Try.mapsRowed : mapsRowed Try.prog = true := by kernel_rfl
theorem and_i {a b : Bool} (h : a = true) (h' : b = true) : (a && b) = true := by rw [h, h']; rfl

section
variable {H : Type} {enc : TypeId × Value → H}

theorem post_of_below {P : Program} {f : Func} {s : ChangeSpec} {apart fresh handsOn again : Bool} {W W' : World} {args : Array Value} {v : Value} {ds gs : List (DataW H)} {before pa pv : List MemPlace}
    (hW : DataW.Whole enc P f.params.toList s.vars apart W args.toList ds gs before)
    (hres : ∀ (b : Nat) (sp : Nat → Bool) (hd : Bool), DataW.TrodAll enc P W' b sp hd f.resultTypes.toList (v.resultList f.resultTypes.size) (s.fn H (ds ++ gs)).results [])
    (hargs : ∀ sp : Nat → Bool, (∀ p ∈ before, sp p.block = true) → DataW.TrodAll enc P W' 0 sp true f.params.toList args.toList (s.fn H (ds ++ gs)).args pa)
    (hvars : ∀ sp : Nat → Bool, (∀ p ∈ before, sp p.block = true) → DataW.TrodVars enc P W' sp s.vars (s.fn H (ds ++ gs)).vars pv)
    (hps : before = pa ++ pv) (hb : Below W.heap.size W W')
    (hok : ∀ (j : Nat) (t : TypeId) (r : Value), f.resultTypes[j]? = some t → (v.resultList f.resultTypes.size)[j]? = some r → Value.okWide P W' .any 0 t r) :
    s.post enc P f apart fresh handsOn again W args v W' := by
  have hlt : ∀ p ∈ before, p.block < W.heap.size := fun p hp => hW.lt p hp
  have hold : ∀ p ∈ before, (fun b => decide (b < W.heap.size)) p.block = true := fun p hp => by simpa using hlt p hp
  refine ⟨ds, gs, before, [], pa, pv, hW, hres _ _ _, hargs _ hold, hvars _ hold, World.keptBut_mono (fun p hp => ⟨hp, ?_⟩) (hb.frame (· ∈ before)), fun _ => ?_⟩
  · rw [hps, List.mem_append] at hp
    exact Or.inr hp
  · obtain ⟨_, _, _, _, _, hz, hn⟩ := hW
    refine ⟨hok, _, _, ([] ++ pa) ++ pv, ⟨[] ++ pa, pv, trodAll_append (hargs _ (fun _ _ => rfl)) (hres _ _ _), hvars _ (fun _ _ => rfl), rfl, ?_, ?_⟩, ?_⟩
    · intro b off hp
      have hin : MemPlace.cell b off ∈ before := by rw [hps]; simpa using hp
      rw [hb.frozen (hlt _ hin)]
      exact hz b off hin
    · intro ha
      have := hn ha
      rw [hps] at this
      simpa using this
    · intro p hp _
      rw [hps]
      simpa using hp

theorem stays {t : TypeId} (hr : Try.prog.readableRec t = true) (hrow : t < Try.prog.types.size) {W W' : World} {v : Value} {d : DataW H} {ps : List MemPlace} (h : DataW.Trod enc Try.prog W 0 (fun _ => true) true t v d ps)
    (hb : Below W.heap.size W W') (hlt : ∀ x ∈ ps, x.block < W.heap.size) (sp : Nat → Bool) (hsp : ∀ x ∈ ps, sp x.block = true) : DataW.Trod enc Try.prog W' 0 sp true t v d ps :=
  WideElems.Trod_stays Try.laidOut hr hrow h (fun x hx => hb.same (hlt x hx)) hsp


theorem r5 : Try.prog.readableRec 5 = true := by kernel_rfl
theorem s5 : 5 < Try.prog.types.size := of_decide_eq_true (by kernel_rfl)
theorem r22 : Try.prog.readableRec 22 = true := by kernel_rfl
theorem s22 : 22 < Try.prog.types.size := of_decide_eq_true (by kernel_rfl)
theorem r27 : Try.prog.readableRec 27 = true := by kernel_rfl
theorem s27 : 27 < Try.prog.types.size := of_decide_eq_true (by kernel_rfl)
end
end Go.Proofs.Yteaanagljmcidaa
