/- memo: Batch. ikey: Upto; memo: Get. memo: what a memo tells, by what it holds. -/
import Derived.Test.YteaanagljmcidaaMemoAB
import Derived.Test.YteaanagljmcidaaOps
namespace Go.Proofs.Yteaanagljmcidaa
open Go.RowKit

attribute [local go_sem ↓] Go.wp_at_zero Go.wp_at_succ

theorem fits54M : Fits Try.prog 54 3 intC.size 8 := fits_of Try.underlying54 (by decide) (by kernel_rfl : (Try.prog.info? 3).map (fun i => (i.zero, i.size, i.bytes)) = some (some (.int .i64 0), 1, 8)) rfl
theorem Sl.int {w : World} {F : Nat → Prop} {A : Option Addr} {n cap : Nat} {l : List Int} (h : Sl intC w F (.slice A n cap) l) (i : Nat) (hi : i < l.length) :
    ∃ b off, A = some ⟨b, off, none⟩ ∧ F b ∧ w.cell? ⟨b, off + i, none⟩ = some (.int .i64 l[i]) := by
  obtain ⟨b, off, cs, hA, hF, hat, hr⟩ := h.get i hi
  have hr' : cs = [.int .i64 l[i]] := hr.1
  subst hr'
  have h1 := hat.cell 0 _ rfl
  exact ⟨b, off, hA, hF, by simpa [intC] using h1⟩

/-- A memo's state. -/
structure MS where
  m : List (Ent × Nat)
  l : List SpanE
  sz : Int
  last : Nat
def MmS (w : World) (Foot : Nat → Prop) (M : Nat) (s : MS) : Prop := Mm w Foot M s.m s.l s.sz s.last
def MS.put (s : MS) (o : OpE) (q : Nat) (ht : Int) : MS := ⟨putM s.m o q ht, putL s.l o q, s.sz + opW o, q⟩
def batN (s : MS) (ops : List OpE) (q : Nat) (hs : List Int) : Nat → MS
  | 0 => s
  | i + 1 => match ops[i]? with
    | none => batN s ops q hs i
    | some o => (batN s ops q hs i).put o (q + i) (hs[i]?.getD 1)
theorem batN_succ {s : MS} {ops : List OpE} {q : Nat} {hs : List Int} {i : Nat} (hi : i < ops.length) : batN s ops q hs (i + 1) = (batN s ops q hs i).put ops[i] (q + i) (hs[i]?.getD 1) := by
  rw [batN, List.getElem?_eq_getElem hi]
def okS (s : MS) (n : Nat) : Prop := s.m.length ≤ n ∧ s.l.length ≤ n ∧ 0 ≤ s.sz ∧ s.sz ≤ n * 600
theorem insN_le (m : List (Ent × Nat)) (e : Ent) (h : Int) : (insN m e h).length ≤ m.length + 1 := by
  unfold insN
  split
  · rw [insM_length]; omega
  · omega
theorem okS.put {s : MS} {n : Nat} (h : okS s n) {o : OpE} (ho : ocheck o = 0) (q : Nat) (ht : Int) : okS (s.put o q ht) (n + 1) := by
  obtain ⟨h1, h2, h3, h4⟩ := h
  obtain ⟨_, _, k3, k4, _, _⟩ := ocheck_ok ho
  have h5 := insN_le s.m ⟨⟨o.key, UInt64.ofNat q, o.kind⟩, o.val⟩ ht
  refine ⟨?_, ?_, ?_, ?_⟩
  · show (putM s.m o q ht).length ≤ _
    unfold putM; split <;> omega
  · show (putL s.l o q).length ≤ _
    unfold putL; split
    · rw [List.length_append, List.length_singleton]; omega
    · omega
  · show 0 ≤ s.sz + opW o
    unfold opW; omega
  · show s.sz + opW o ≤ _
    unfold opW; omega
theorem okS.bat {s : MS} {n : Nat} (h : okS s n) {ops : List OpE} (ho : ∀ o ∈ ops, ocheck o = 0) (q : Nat) (hs : List Int) : ∀ i, i ≤ ops.length → okS (batN s ops q hs i) (n + i)
  | 0, _ => h
  | i + 1, hi => by
    rw [batN_succ (by omega)]
    exact (okS.bat h ho q hs i (by omega)).put (ho _ (List.getElem_mem _)) _ _

def tallI (h : Int) : Prop := 1 ≤ h ∧ h ≤ 8
instance (h : Int) : Decidable (tallI h) := by unfold tallI; infer_instance
/-- Are all heights right? -/
def tallL (n : Nat) (hs : List Int) : Prop := ∀ i (_ : i < n) (hi : i < hs.length), tallI hs[i]
noncomputable instance (n : Nat) (hs : List Int) : Decidable (tallL n hs) := Classical.propDecidable _
noncomputable def batR (last : Nat) (l : List OpE) (q : Nat) (hs : List Int) : Int :=
  if bcheck l ≠ 0 then bcheck l else if q = 0 ∨ 72057594037927935 < q ∨ 72057594037927935 < q + (max l.length 1 - 1) then 13 else if ¬ tallL l.length hs then 1 else if q ≤ last then 10 else 0
noncomputable def batS (s : MS) (l : List OpE) (q : Nat) (hs : List Int) : MS :=
  if batR s.last l q hs = 0 then batN s l q hs l.length else s

section
variable {w w' : World} {Foot G H : Nat → Prop} {M : Nat} {s : MS}

theorem memo_putZ (h : MmS w Foot M s) {u x : Value} (o : OpE) (hG : ∀ b, G b → b < w.heap.size) (hu : Bs w G u o.key) (hx : Bs w G x o.val) (z : Int) (q : Nat) (hz : z = q) (hok : ocheck o = 0) (hq0 : 0 < q) (hq : q ≤ 72057594037927935) {n : Nat} (hn : okS s n) (hn' : n < 80000) (t ht : Int) (htt : t = ht) :
    Calls Try.prog 145 #[.pointer (some ⟨M, 0, none⟩), .agg #[byteV o.kind, u, x], .int .u64 z, .int .i64 t] w fun e w' => e = .returned (.tuple #[]) ∧ Out Foot w w' ∧
      MmS w' (fun b => Foot b ∨ w.heap.size ≤ b) M (s.put o q ht) := by
  subst hz htt
  obtain ⟨h1, h2, h3, h4⟩ := hn
  exact memo_put h o hG hu hx q hok hq0 hq (by omega) (by omega) h3 (by omega) t

set_option maxRecDepth 100000 in
set_option maxHeartbeats 4000000 in
theorem memo_batch (h : MmS w Foot M s) {v hv : Value} (l : List OpE) (hs : List Int) (hl : Sl opC w G v l) (hh : Sl intC w H hv hs) (hG : ∀ b, G b → b < w.heap.size) (hGF : ∀ b, G b → ¬ Foot b) (hHF : ∀ b, H b → ¬ Foot b) (q : Nat) {n : Nat} (hn : okS s n) (hn' : n < 79000) :
    Calls Try.prog 87 #[.pointer (some ⟨M, 0, none⟩), v, .int .u64 (q : Int), hv] w fun e w' => e = .returned (.int .i64 (batR s.last l q hs)) ∧ Out Foot w w' ∧ MmS w' (fun b => Foot b ∨ w.heap.size ≤ b) M (batS s l q hs) := by
  obtain ⟨A, cap, rfl, h1, h2, h3, h4⟩ := hl.form
  have h3 : l.length ≤ 140737488355328 := h3
  obtain ⟨B, cap', rfl, g1, g2, g3, g4⟩ := hh.form
  have g3 : hs.length ≤ 140737488355328 := g3
  have HC := Lib.hid (batch_check w l hl)
  have Hl := Lib.hid hl
  have Hh := Lib.hid hh
  have H0 := Lib.hid h
  have HG := Lib.hid hG
  have HGF := Lib.hid hGF
  have HHF := Lib.hid hHF
  have Hn := Lib.hid hn
  have noC : ∀ w', Ext w w' → batR s.last l q hs ≠ 0 → Out Foot w w' ∧ MmS w' (fun b => Foot b ∨ w.heap.size ≤ b) M (batS s l q hs) := fun w' hx hr => ⟨hx.out _, by
    unfold batS; rw [if_neg hr]; exact Mm.mono (Mm.ext h hx) fun b _ hb => .inl hb⟩
  have NoC := Lib.hid noC
  have hlast : ∃ L T, w.heap[M]? = some (.cells #[.pointer (some ⟨L, 0, none⟩), .pointer (some ⟨T, 0, none⟩), .int .i64 s.sz, .int .u64 (s.last : Int)] 183) := by
    obtain ⟨FS, FT, L, T, v, h0, -⟩ := h; exact ⟨L, T, h0.blk⟩
  obtain ⟨L, T, hMb⟩ := hlast
  have HM := Lib.hid hMb
  clear h1 h2 h4 g1 g2 g4 hl hh h hG hGF hHF noC hn hMb
  by_cases hc : bcheck l = 0
  rotate_left
  · have hR : batR s.last l q hs = bcheck l := by unfold batR; exact if_pos hc
    have No := Lib.hid fun w' hx => NoC.out w' hx (by rw [hR]; exact hc)
    have HR := Lib.hid hR
    obtain ⟨c, hcc⟩ : ∃ c, bcheck l = c := ⟨_, rfl⟩
    rw [hcc] at HC hc HR
    have hcb : (c != 0) = true := by simpa using hc
    clear hR hcc hc NoC
    go_enter Try.func87, Try.ntmps87
    go_wp2_with (go_at_call 146; refine HC.out.mono ?_; rintro r w1 ⟨rfl, hx1⟩)
    go_ret
    exact ⟨ret_of HR.out.symm, No.out _ hx1⟩
  rw [hc] at HC
  have hl64 : l.length ≤ 64 := by
    apply Classical.byContradiction; intro h; unfold bcheck at hc; rw [if_pos (by omega)] at hc; cases hc
  have Hok : Hid (∀ o ∈ l, ocheck o = 0) := Lib.hid (by unfold bcheck at hc; rw [if_neg (by omega)] at hc; exact bcheckL_ok hc)
  by_cases hq : q = 0 ∨ 72057594037927935 < q ∨ 72057594037927935 < q + (max l.length 1 - 1)
  · have hR : batR s.last l q hs = 13 := by unfold batR; rw [if_neg (by simpa using hc), if_pos hq]
    have No := Lib.hid fun w' hx => NoC.out w' hx (by rw [hR]; decide)
    have HR := Lib.hid hR
    have Hq := Lib.hid hq
    clear hR NoC hc
    by_cases q0 : q = 0
    · subst q0
      clear hq
      go_enter Try.func87, Try.ntmps87
      go_wp2_with (go_at_call 146; refine HC.out.mono ?_; rintro r w1 ⟨rfl, hx1⟩)
      go_ret
      exact ⟨ret_of HR.out.symm, No.out _ hx1⟩
    · by_cases q1 : 72057594037927935 < q
      · have q0' : ((q : Int) == 0) = false := by rw [beq_eq_false_iff_ne]; omega
        have q1' : decide ((72057594037927935 : Int) < q) = true := by rw [decide_eq_true_iff]; omega
        clear hq q0
        go_enter Try.func87, Try.ntmps87
        go_wp2_with (go_at_call 146; refine HC.out.mono ?_; rintro r w1 ⟨rfl, hx1⟩)
        go_ret
        exact ⟨ret_of HR.out.symm, No.out _ hx1⟩
      · have q0' : ((q : Int) == 0) = false := by rw [beq_eq_false_iff_ne]; omega
        have q1' : decide ((72057594037927935 : Int) < q) = false := by rw [decide_eq_false_iff_not]; omega
        have q2 : 2 ≤ l.length := by omega
        have q3 : decide ((72057594037927935 : Int) - q < (l.length : Int) - 1) = true := by rw [decide_eq_true_iff]; omega
        clear hq
        go_enter Try.func87, Try.ntmps87
        go_wp2_with (go_at_call 146; refine HC.out.mono ?_; rintro r w1 ⟨rfl, hx1⟩)
        go_ret
        exact ⟨ret_of HR.out.symm, No.out _ hx1⟩
  have q0' : ((q : Int) == 0) = false := by rw [beq_eq_false_iff_ne]; omega
  have q1' : decide ((72057594037927935 : Int) < q) = false := by rw [decide_eq_false_iff_not]; omega
  have qm : q ≤ 72057594037927935 := by omega
  have Hq := Lib.hid hq
  have HR0 : Hid (batR s.last l q hs = if tallL l.length hs then (if q ≤ s.last then 10 else 0) else 1) := Lib.hid (by unfold batR; rw [if_neg (by simpa using hc), if_neg hq]; by_cases ht : tallL l.length hs <;> simp [ht])
  have hcs : l.length ≤ 0 ∨ 1 ≤ l.length ∧ l.length ≤ hs.length ∨ 1 ≤ l.length ∧ hs.length < l.length := by omega
  have q4 : l.length ≤ 0 → decide ((72057594037927935 : Int) - q < 0) = false := fun _ => by rw [decide_eq_false_iff_not]; omega
  have q5 : 1 ≤ l.length → decide ((72057594037927935 : Int) - q < (l.length : Int) - 1) = false := fun _ => by rw [decide_eq_false_iff_not]; omega
  have Q4 := Lib.hid q4
  have Q5 := Lib.hid q5
  clear hq hc q4 q5
  rcases hcs with c1 | ⟨c1, c2⟩ | ⟨c1, c2⟩
  · have q4 := Q4.out c1
    go_enter Try.func87, Try.ntmps87
    go_wp2_with (go_at_call 146; refine HC.out.mono ?_; rintro r w1 ⟨rfl, hx1⟩; have HX1 := Lib.hid hx1; clear hx1)
    go_loopw [42] (fun s42 wr => ∃ i : Nat, i ≤ l.length ∧ i ≤ hs.length ∧ s42 = .int .i64 i ∧ Ext w wr ∧ (∀ j (_ : j < i) (hj : j < hs.length), tallI hs[j])) (fun s42 _ => l.length - (intOf s42).toNat)
    case atStart => exact ⟨0, Nat.zero_le _, Nat.zero_le _, rfl, HX1.out, fun j hj => absurd hj (by omega)⟩
    case round =>
      obtain ⟨i, hi1, hi2, rfl, hxi, hall⟩ := hrel
      have HXi := Lib.hid hxi
      have Hall := Lib.hid hall
      clear hxi hall
      by_cases hlt : i < l.length ∧ i < hs.length
      · obtain ⟨hlt1, hlt2⟩ := hlt
        obtain ⟨b, off, rfl, -, c0⟩ := (Hh.out.ext HXi.out).int i hlt2
        by_cases ht : tallI hs[i]
        · have HT : Hid (∀ w, Calls Try.prog 144 #[.int .i64 hs[i]] w fun e w' => e = .returned (.bool true) ∧ w = w') := Lib.hid fun w => by have := memo_tall w hs[i]; rwa [show decide (1 ≤ hs[i] ∧ hs[i] ≤ 8) = true from decide_eq_true ht] at this
          have Ht := Lib.hid ht
          clear ht
          go_wp2_with (go_at_call 144; refine (HT.out _).mono ?_; rintro r w2 ⟨rfl, rfl⟩)
          go_roundw
          case rel => exact ⟨i + 1, by omega, by omega, by go_num, HXi.out, fun j hj hjl => by
            rcases Nat.lt_or_ge j i with h | h
            · exact Hall.out j h hjl
            · obtain rfl : j = i := by omega
              exact Ht.out⟩
          case measure => simp [intOf]; omega
        · have HT : Hid (∀ w, Calls Try.prog 144 #[.int .i64 hs[i]] w fun e w' => e = .returned (.bool false) ∧ w = w') := Lib.hid fun w => by have := memo_tall w hs[i]; rwa [show decide (1 ≤ hs[i] ∧ hs[i] ≤ 8) = false from decide_eq_false ht] at this
          have hR : batR s.last l q hs = 1 := by rw [HR0.out, if_neg (fun h => ht (h i hlt1 hlt2))]
          have HR := Lib.hid hR
          have No := Lib.hid (NoC.out _ HXi.out (by rw [hR]; decide))
          clear ht hR
          go_wp2_with (go_at_call 144; refine (HT.out _).mono ?_; rintro r w2 ⟨rfl, rfl⟩)
          go_ret
          exact ⟨ret_of HR.out.symm, No.out⟩
      · have htall : tallL l.length hs := fun j hj hjl => Hall.out j (by omega) hjl
        obtain rfl : i = l.length := by omega
        obtain ⟨m0, m1, m2, m3, mf⟩ := cells4 (HXi.out.blk HM.out (fun f => f))
        by_cases hla : q ≤ s.last
        · have hR : batR s.last l q hs = 10 := by rw [HR0.out, if_pos htall, if_pos hla]
          have HR := Lib.hid hR
          have No := Lib.hid (NoC.out _ HXi.out (by rw [hR]; decide))
          clear hR htall
          go_wp2
          go_ret
          exact ⟨ret_of HR.out.symm, No.out⟩
        · have hR : batR s.last l q hs = 0 := by rw [HR0.out, if_pos htall, if_neg hla]
          have HR := Lib.hid hR
          have HS : Hid (batS s l q hs = batN s l q hs l.length) := Lib.hid (by unfold batS; rw [if_pos hR])
          clear hR htall
          go_wp2
          go_loopw [60] (fun s60 wr2 => ∃ k : Nat, k ≤ l.length ∧ s60 = .int .i64 k ∧ Out Foot w wr2 ∧ MmS wr2 (fun b => Foot b ∨ w.heap.size ≤ b) M (batN s l q hs k)) (fun s60 _ => l.length - (intOf s60).toNat)
          case atStart => exact ⟨0, Nat.zero_le _, rfl, HXi.out.out _, Mm.mono (Mm.ext H0.out HXi.out) fun b _ hb => .inl hb⟩
          case round =>
            obtain ⟨wo, rfl⟩ : ∃ x : World, x = wr := ⟨_, rfl⟩
            obtain ⟨k, hk, rfl, hok, hmk⟩ := hrel
            have HOk := Lib.hid hok
            have HMk := Lib.hid hmk
            have hsz := hok.size
            clear hok hmk m0 m1 m2 m3 mf
            by_cases hlk : k < l.length
            · exfalso; omega
            · obtain rfl : k = l.length := by omega
              go_wp2
              go_ret
              exact ⟨ret_of HR.out.symm, HOk.out, by rw [HS.out]; exact HMk.out⟩
  · have q5 := Q5.out c1
    go_enter Try.func87, Try.ntmps87
    go_wp2_with (go_at_call 146; refine HC.out.mono ?_; rintro r w1 ⟨rfl, hx1⟩; have HX1 := Lib.hid hx1; clear hx1)
    go_loopw [42] (fun s42 wr => ∃ i : Nat, i ≤ l.length ∧ i ≤ hs.length ∧ s42 = .int .i64 i ∧ Ext w wr ∧ (∀ j (_ : j < i) (hj : j < hs.length), tallI hs[j])) (fun s42 _ => l.length - (intOf s42).toNat)
    case atStart => exact ⟨0, Nat.zero_le _, Nat.zero_le _, rfl, HX1.out, fun j hj => absurd hj (by omega)⟩
    case round =>
      obtain ⟨i, hi1, hi2, rfl, hxi, hall⟩ := hrel
      have HXi := Lib.hid hxi
      have Hall := Lib.hid hall
      clear hxi hall
      by_cases hlt : i < l.length ∧ i < hs.length
      · obtain ⟨hlt1, hlt2⟩ := hlt
        obtain ⟨b, off, rfl, -, c0⟩ := (Hh.out.ext HXi.out).int i hlt2
        by_cases ht : tallI hs[i]
        · have HT : Hid (∀ w, Calls Try.prog 144 #[.int .i64 hs[i]] w fun e w' => e = .returned (.bool true) ∧ w = w') := Lib.hid fun w => by have := memo_tall w hs[i]; rwa [show decide (1 ≤ hs[i] ∧ hs[i] ≤ 8) = true from decide_eq_true ht] at this
          have Ht := Lib.hid ht
          clear ht
          go_wp2_with (go_at_call 144; refine (HT.out _).mono ?_; rintro r w2 ⟨rfl, rfl⟩)
          go_roundw
          case rel => exact ⟨i + 1, by omega, by omega, by go_num, HXi.out, fun j hj hjl => by
            rcases Nat.lt_or_ge j i with h | h
            · exact Hall.out j h hjl
            · obtain rfl : j = i := by omega
              exact Ht.out⟩
          case measure => simp [intOf]; omega
        · have HT : Hid (∀ w, Calls Try.prog 144 #[.int .i64 hs[i]] w fun e w' => e = .returned (.bool false) ∧ w = w') := Lib.hid fun w => by have := memo_tall w hs[i]; rwa [show decide (1 ≤ hs[i] ∧ hs[i] ≤ 8) = false from decide_eq_false ht] at this
          have hR : batR s.last l q hs = 1 := by rw [HR0.out, if_neg (fun h => ht (h i hlt1 hlt2))]
          have HR := Lib.hid hR
          have No := Lib.hid (NoC.out _ HXi.out (by rw [hR]; decide))
          clear ht hR
          go_wp2_with (go_at_call 144; refine (HT.out _).mono ?_; rintro r w2 ⟨rfl, rfl⟩)
          go_ret
          exact ⟨ret_of HR.out.symm, No.out⟩
      · have htall : tallL l.length hs := fun j hj hjl => Hall.out j (by omega) hjl
        obtain rfl : i = l.length := by omega
        obtain ⟨m0, m1, m2, m3, mf⟩ := cells4 (HXi.out.blk HM.out (fun f => f))
        by_cases hla : q ≤ s.last
        · have hR : batR s.last l q hs = 10 := by rw [HR0.out, if_pos htall, if_pos hla]
          have HR := Lib.hid hR
          have No := Lib.hid (NoC.out _ HXi.out (by rw [hR]; decide))
          clear hR htall
          go_wp2
          go_ret
          exact ⟨ret_of HR.out.symm, No.out⟩
        · have hR : batR s.last l q hs = 0 := by rw [HR0.out, if_pos htall, if_neg hla]
          have HR := Lib.hid hR
          have HS : Hid (batS s l q hs = batN s l q hs l.length) := Lib.hid (by unfold batS; rw [if_pos hR])
          clear hR htall
          go_wp2
          go_loopw [60] (fun s60 wr2 => ∃ k : Nat, k ≤ l.length ∧ s60 = .int .i64 k ∧ Out Foot w wr2 ∧ MmS wr2 (fun b => Foot b ∨ w.heap.size ≤ b) M (batN s l q hs k)) (fun s60 _ => l.length - (intOf s60).toNat)
          case atStart => exact ⟨0, Nat.zero_le _, rfl, HXi.out.out _, Mm.mono (Mm.ext H0.out HXi.out) fun b _ hb => .inl hb⟩
          case round =>
            obtain ⟨wo, rfl⟩ : ∃ x : World, x = wr := ⟨_, rfl⟩
            obtain ⟨k, hk, rfl, hok, hmk⟩ := hrel
            have HOk := Lib.hid hok
            have HMk := Lib.hid hmk
            have hsz := hok.size
            clear hok hmk m0 m1 m2 m3 mf
            by_cases hlk : k < l.length
            · obtain ⟨b, off, u, x, rfl, -, c0, c1', c2', hu, hx⟩ := (Hl.out.out HOk.out (fun b _ hb => HGF.out b hb)).op k hlk
              obtain ⟨U, N1, n1, rfl⟩ := hu.form0
              obtain ⟨X, N2, n2, rfl⟩ := hx.form0
              have x1 := Ext.alloc1 wo (.cells #[byteV l[k].kind, .slice U N1 n1, .slice X N2 n2] 112)
              obtain ⟨z0, z1, z2, -⟩ := cells3 (blk_new wo (.cells #[byteV l[k].kind, .slice U N1 n1, .slice X N2 n2] 112))
              have Hu := Lib.hid (hu.ext x1)
              have Hx := Lib.hid (hx.ext x1)
              have HMx := Lib.hid (Mm.ext HMk.out x1)
              have X1 := Lib.hid x1
              have HlG : Hid (∀ b, G b → b < (wo.alloc (.cells #[byteV l[k].kind, .slice U N1 n1, .slice X N2 n2] 112)).heap.size) := Lib.hid fun b hb => Nat.lt_of_lt_of_le (Nat.lt_of_lt_of_le (HG.out b hb) hsz) x1.size
              have Hko := Lib.hid (Hok.out l[k] (List.getElem_mem hlk))
              have Hkn := Lib.hid (okS.bat Hn.out Hok.out q hs k (by omega))
              have Hsucc := Lib.hid (batN_succ (s := s) (q := q) (hs := hs) hlk)
              have hq72 : q + k ≤ 72057594037927935 := by have := Hq.out; omega
              have hq0 : 0 < q := by have := Hq.out; omega
              clear hu hx x1
              by_cases hkh : k < hs.length
              · obtain ⟨b', off', rfl, -, d0⟩ := ((Hh.out.out HOk.out (fun b _ hb => HHF.out b hb)).ext X1.out).int k hkh
                go_wp2_with (go_at_call 145; refine (memo_putZ (s := batN s l q hs k) HMx.out l[k] HlG.out Hu.out Hx.out _ (q + k) (by omega) Hko.out (by omega) hq72 Hkn.out (by omega) _ (hs[k]?.getD 1) (by simp [hkh])).mono ?_; rintro r w3 ⟨rfl, ho3, hm3⟩; have Ho3 := Lib.hid ho3; have Hm3 := Lib.hid hm3; clear ho3 hm3)
                go_roundw
                case rel => exact ⟨k + 1, by omega, by go_num, (HOk.out.ext X1.out).then Ho3.out (fun b hb h => h.elim id (fun h => by omega)), by rw [Hsucc.out]; exact Mm.mono Hm3.out fun b hb h => h.elim id fun h => .inr (by simp at h; omega)⟩
                case measure => simp [intOf]; omega
              · exfalso; omega
            · obtain rfl : k = l.length := by omega
              go_wp2
              go_ret
              exact ⟨ret_of HR.out.symm, HOk.out, by rw [HS.out]; exact HMk.out⟩
  · have q5 := Q5.out c1
    go_enter Try.func87, Try.ntmps87
    go_wp2_with (go_at_call 146; refine HC.out.mono ?_; rintro r w1 ⟨rfl, hx1⟩; have HX1 := Lib.hid hx1; clear hx1)
    go_loopw [42] (fun s42 wr => ∃ i : Nat, i ≤ l.length ∧ i ≤ hs.length ∧ s42 = .int .i64 i ∧ Ext w wr ∧ (∀ j (_ : j < i) (hj : j < hs.length), tallI hs[j])) (fun s42 _ => l.length - (intOf s42).toNat)
    case atStart => exact ⟨0, Nat.zero_le _, Nat.zero_le _, rfl, HX1.out, fun j hj => absurd hj (by omega)⟩
    case round =>
      obtain ⟨i, hi1, hi2, rfl, hxi, hall⟩ := hrel
      have HXi := Lib.hid hxi
      have Hall := Lib.hid hall
      clear hxi hall
      by_cases hlt : i < l.length ∧ i < hs.length
      · obtain ⟨hlt1, hlt2⟩ := hlt
        obtain ⟨b, off, rfl, -, c0⟩ := (Hh.out.ext HXi.out).int i hlt2
        by_cases ht : tallI hs[i]
        · have HT : Hid (∀ w, Calls Try.prog 144 #[.int .i64 hs[i]] w fun e w' => e = .returned (.bool true) ∧ w = w') := Lib.hid fun w => by have := memo_tall w hs[i]; rwa [show decide (1 ≤ hs[i] ∧ hs[i] ≤ 8) = true from decide_eq_true ht] at this
          have Ht := Lib.hid ht
          clear ht
          go_wp2_with (go_at_call 144; refine (HT.out _).mono ?_; rintro r w2 ⟨rfl, rfl⟩)
          go_roundw
          case rel => exact ⟨i + 1, by omega, by omega, by go_num, HXi.out, fun j hj hjl => by
            rcases Nat.lt_or_ge j i with h | h
            · exact Hall.out j h hjl
            · obtain rfl : j = i := by omega
              exact Ht.out⟩
          case measure => simp [intOf]; omega
        · have HT : Hid (∀ w, Calls Try.prog 144 #[.int .i64 hs[i]] w fun e w' => e = .returned (.bool false) ∧ w = w') := Lib.hid fun w => by have := memo_tall w hs[i]; rwa [show decide (1 ≤ hs[i] ∧ hs[i] ≤ 8) = false from decide_eq_false ht] at this
          have hR : batR s.last l q hs = 1 := by rw [HR0.out, if_neg (fun h => ht (h i hlt1 hlt2))]
          have HR := Lib.hid hR
          have No := Lib.hid (NoC.out _ HXi.out (by rw [hR]; decide))
          clear ht hR
          go_wp2_with (go_at_call 144; refine (HT.out _).mono ?_; rintro r w2 ⟨rfl, rfl⟩)
          go_ret
          exact ⟨ret_of HR.out.symm, No.out⟩
      · have htall : tallL l.length hs := fun j hj hjl => Hall.out j (by omega) hjl
        obtain rfl : i = hs.length := by omega
        obtain ⟨m0, m1, m2, m3, mf⟩ := cells4 (HXi.out.blk HM.out (fun f => f))
        by_cases hla : q ≤ s.last
        · have hR : batR s.last l q hs = 10 := by rw [HR0.out, if_pos htall, if_pos hla]
          have HR := Lib.hid hR
          have No := Lib.hid (NoC.out _ HXi.out (by rw [hR]; decide))
          clear hR htall
          go_wp2
          go_ret
          exact ⟨ret_of HR.out.symm, No.out⟩
        · have hR : batR s.last l q hs = 0 := by rw [HR0.out, if_pos htall, if_neg hla]
          have HR := Lib.hid hR
          have HS : Hid (batS s l q hs = batN s l q hs l.length) := Lib.hid (by unfold batS; rw [if_pos hR])
          clear hR htall
          go_wp2
          go_loopw [60] (fun s60 wr2 => ∃ k : Nat, k ≤ l.length ∧ s60 = .int .i64 k ∧ Out Foot w wr2 ∧ MmS wr2 (fun b => Foot b ∨ w.heap.size ≤ b) M (batN s l q hs k)) (fun s60 _ => l.length - (intOf s60).toNat)
          case atStart => exact ⟨0, Nat.zero_le _, rfl, HXi.out.out _, Mm.mono (Mm.ext H0.out HXi.out) fun b _ hb => .inl hb⟩
          case round =>
            obtain ⟨wo, rfl⟩ : ∃ x : World, x = wr := ⟨_, rfl⟩
            obtain ⟨k, hk, rfl, hok, hmk⟩ := hrel
            have HOk := Lib.hid hok
            have HMk := Lib.hid hmk
            have hsz := hok.size
            clear hok hmk m0 m1 m2 m3 mf
            by_cases hlk : k < l.length
            · obtain ⟨b, off, u, x, rfl, -, c0, c1', c2', hu, hx⟩ := (Hl.out.out HOk.out (fun b _ hb => HGF.out b hb)).op k hlk
              obtain ⟨U, N1, n1, rfl⟩ := hu.form0
              obtain ⟨X, N2, n2, rfl⟩ := hx.form0
              have x1 := Ext.alloc1 wo (.cells #[byteV l[k].kind, .slice U N1 n1, .slice X N2 n2] 112)
              obtain ⟨z0, z1, z2, -⟩ := cells3 (blk_new wo (.cells #[byteV l[k].kind, .slice U N1 n1, .slice X N2 n2] 112))
              have Hu := Lib.hid (hu.ext x1)
              have Hx := Lib.hid (hx.ext x1)
              have HMx := Lib.hid (Mm.ext HMk.out x1)
              have X1 := Lib.hid x1
              have HlG : Hid (∀ b, G b → b < (wo.alloc (.cells #[byteV l[k].kind, .slice U N1 n1, .slice X N2 n2] 112)).heap.size) := Lib.hid fun b hb => Nat.lt_of_lt_of_le (Nat.lt_of_lt_of_le (HG.out b hb) hsz) x1.size
              have Hko := Lib.hid (Hok.out l[k] (List.getElem_mem hlk))
              have Hkn := Lib.hid (okS.bat Hn.out Hok.out q hs k (by omega))
              have Hsucc := Lib.hid (batN_succ (s := s) (q := q) (hs := hs) hlk)
              have hq72 : q + k ≤ 72057594037927935 := by have := Hq.out; omega
              have hq0 : 0 < q := by have := Hq.out; omega
              clear hu hx x1
              by_cases hkh : k < hs.length
              · obtain ⟨b', off', rfl, -, d0⟩ := ((Hh.out.out HOk.out (fun b _ hb => HHF.out b hb)).ext X1.out).int k hkh
                go_wp2_with (go_at_call 145; refine (memo_putZ (s := batN s l q hs k) HMx.out l[k] HlG.out Hu.out Hx.out _ (q + k) (by omega) Hko.out (by omega) hq72 Hkn.out (by omega) _ (hs[k]?.getD 1) (by simp [hkh])).mono ?_; rintro r w3 ⟨rfl, ho3, hm3⟩; have Ho3 := Lib.hid ho3; have Hm3 := Lib.hid hm3; clear ho3 hm3)
                go_roundw
                case rel => exact ⟨k + 1, by omega, by go_num, (HOk.out.ext X1.out).then Ho3.out (fun b hb h => h.elim id (fun h => by omega)), by rw [Hsucc.out]; exact Mm.mono Hm3.out fun b hb h => h.elim id fun h => .inr (by simp at h; omega)⟩
                case measure => simp [intOf]; omega
              · go_wp2_with (go_at_call 145; refine (memo_putZ (s := batN s l q hs k) HMx.out l[k] HlG.out Hu.out Hx.out _ (q + k) (by omega) Hko.out (by omega) hq72 Hkn.out (by omega) _ (hs[k]?.getD 1) (by simp [hkh])).mono ?_; rintro r w3 ⟨rfl, ho3, hm3⟩; have Ho3 := Lib.hid ho3; have Hm3 := Lib.hid hm3; clear ho3 hm3)
                go_roundw
                case rel => exact ⟨k + 1, by omega, by go_num, (HOk.out.ext X1.out).then Ho3.out (fun b hb h => h.elim id (fun h => by omega)), by rw [Hsucc.out]; exact Mm.mono Hm3.out fun b hb h => h.elim id fun h => .inr (by simp at h; omega)⟩
                case measure => simp [intOf]; omega
            · obtain rfl : k = l.length := by omega
              go_wp2
              go_ret
              exact ⟨ret_of HR.out.symm, HOk.out, by rw [HS.out]; exact HMk.out⟩
end
end Go.Proofs.Yteaanagljmcidaa
namespace Go.Proofs.Yteaanagljmcidaa
open Go.RowKit

attribute [local go_sem ↓] Go.wp_at_zero Go.wp_at_succ

set_option maxRecDepth 100000 in
set_option maxHeartbeats 2000000 in
theorem ikey_upto (w : World) {F : Nat → Prop} {x : Value} (key : List UInt8) (hx : Bs w F x key) (q : Nat) : Calls Try.prog 137 #[x, .int .u64 (q : Int)] w fun e w' => ∃ u, e = .returned (.agg #[u, .int .u64 ((min q 72057594037927935 : Nat) : Int), .int .u8 2]) ∧ Ext w w' ∧ Bs w' (fun b => w.heap.size ≤ b) u key := by
  obtain ⟨X, M, m, rfl⟩ := hx.form0
  have x1 := Ext.alloc1 w (.cells #[.slice none 0 0, .int .u64 0, .int .u8 0] 30)
  have HX := Lib.hid x1
  have Hx := Lib.hid (hx.ext x1)
  have Hz := Lib.hid (blk_new w (.cells #[.slice none 0 0, .int .u64 0, .int .u8 0] 30))
  clear hx x1
  by_cases hq : q ≤ 72057594037927935
  all_goals
    go_enter Try.func137, Try.ntmps137
    go_wp2_with (go_at_call 122; refine (bytes_clone _ Hx.out).mono ?_; rintro r w1 ⟨u1, rfl, hx1, hb1⟩; obtain ⟨U1, N1, n1, rfl⟩ := hb1.form0; obtain ⟨t0, t1, t2, tf⟩ := cells3 (hx1.blk Hz.out (fun f => f)))
    have hR := hx1.blk Hz.out (fun f => f)
  · obtain ⟨r0, r1, r2, -⟩ := cells3 (blk_set3 hR (.slice U1 N1 n1) (.int .u64 (q : Int)) (.int .u8 2))
    have ho := out_set3 (S := fun b => b = w.heap.size) (Out.refl _ w1) (g := w.heap.size) (fun _ => rfl) (.slice U1 N1 n1) (.int .u64 (q : Int)) (.int .u8 2)
    have hs1 := hx1.size
    simp only [World.size_alloc] at hs1
    refine bodyPost_ret (v := .agg #[.slice U1 N1 n1, .int .u64 (q : Int), .int .u8 2]) (by simp [results, Try.results137, go_sem, r0, r1, r2]) rfl ?_
    rw [Nat.min_eq_left hq]
    exact ⟨_, rfl, (HX.out.ext hx1).then ho (fun b hb e => by omega), (hb1.out ho (fun b _ hb e => by simp at hb; omega)).mono (fun b hb _ => by (try simp at hb); omega) (.inl (by decide))⟩
  · obtain ⟨r0, r1, r2, -⟩ := cells3 (blk_set3 hR (.slice U1 N1 n1) (.int .u64 72057594037927935) (.int .u8 2))
    have ho := out_set3 (S := fun b => b = w.heap.size) (Out.refl _ w1) (g := w.heap.size) (fun _ => rfl) (.slice U1 N1 n1) (.int .u64 72057594037927935) (.int .u8 2)
    have hs1 := hx1.size
    simp only [World.size_alloc] at hs1
    refine bodyPost_ret (v := .agg #[.slice U1 N1 n1, .int .u64 72057594037927935, .int .u8 2]) (by simp [results, Try.results137, go_sem, r0, r1, r2]) rfl ?_
    rw [Nat.min_eq_right (by omega)]
    exact ⟨_, rfl, (HX.out.ext hx1).then ho (fun b hb e => by omega), (hb1.out ho (fun b _ hb e => by simp at hb; omega)).mono (fun b hb _ => by (try simp at hb); omega) (.inl (by decide))⟩

section
variable {w w' : World} {Foot G H : Nat → Prop} {M : Nat} {s : MS}

def toldE (s : MS) (key : List UInt8) (q : Nat) : Option Ent := fromE (s.m.map (·.1)) ⟨key, UInt64.ofNat (min q 72057594037927935), 2⟩

/-- What stands in a new block. -/
def Fin (w W : World) (b : Nat) (u v : Value) (o : Option Ent) : Prop :=
  Ext w W ∧ W.heap[b]? = some (.cells #[u, u64V (o.getD zeroE).key.seq, byteV (o.getD zeroE).key.kind, v] 32) ∧ Bs W (fun b => w.heap.size ≤ b) u (o.getD zeroE).key.user ∧ Bs W (fun b => w.heap.size ≤ b) v (o.getD zeroE).value
theorem fin_new {w W : World} {u v : Value} {o : Option Ent} (hx : Ext w W) (hu : Bs W (fun b => w.heap.size ≤ b) u (o.getD zeroE).key.user) (hv : Bs W (fun b => w.heap.size ≤ b) v (o.getD zeroE).value) : Fin w (W.alloc (.cells #[u, u64V (o.getD zeroE).key.seq, byteV (o.getD zeroE).key.kind, v] 32)) W.heap.size u v o :=
  ⟨hx.alloc _, blk_new _ _, hu.alloc _, hv.alloc _⟩
theorem fin_set {w W : World} {b : Nat} {u v a0 a1 a2 a3 : Value} {o : Option Ent} (hx : Ext w W) (hz : W.heap[b]? = some (.cells #[a0, a1, a2, a3] 32)) (hb : w.heap.size ≤ b) (hu : Bs W (fun i => w.heap.size ≤ i ∧ i ≠ b) u (o.getD zeroE).key.user) (hv : Bs W (fun i => w.heap.size ≤ i ∧ i ≠ b) v (o.getD zeroE).value) :
    Fin w ((((W.setCell ⟨b, 0, none⟩ u).setCell ⟨b, 1, none⟩ (u64V (o.getD zeroE).key.seq)).setCell ⟨b, 2, none⟩ (byteV (o.getD zeroE).key.kind)).setCell ⟨b, 3, none⟩ v) b u v o := by
  have ho := out_set4 (S := fun k => k = b) (Out.refl _ W) (g := b) (fun _ => rfl) u (u64V (o.getD zeroE).key.seq) (byteV (o.getD zeroE).key.kind) v
  exact ⟨hx.then ho (fun i hi e => by omega), blk_set4 hz _ _ _ _, (hu.out ho (fun i _ hi e => hi.2 e)).mono (fun i hi _ => hi.1) (.inl (by decide)), (hv.out ho (fun i _ hi e => hi.2 e)).mono (fun i hi _ => hi.1) (.inl (by decide))⟩
/-- What Get tells. -/
def getV (o : Option Ent) (key : List UInt8) (c : Nat) : List UInt8 × Int :=
  if o.isSome = true ∧ ((o.getD zeroE).key.user == key) = true then (if (o.getD zeroE).key.seq.toNat < c ∨ (o.getD zeroE).key.kind.toNat = 1 then ([], 2) else ((o.getD zeroE).value, 1)) else if c = 0 then ([], 0) else ([], 2)
def getE (s : MS) (key : List UInt8) (q : Nat) : List UInt8 × Int := getV (toldE s key q) key (coverE s.l key q)
def Got (w : World) (g : List UInt8 × Int) (x : Ending) (w' : World) : Prop := ∃ v, x = .returned (.tuple #[v, .int .i64 g.2]) ∧ Ext w w' ∧ Bs w' (fun b => w.heap.size ≤ b) v g.1
theorem got_of {w w' : World} {g g' : List UInt8 × Int} {v : Value} (h : g' = g) (hx : Ext w w') (hv : Bs w' (fun b => w.heap.size ≤ b) v g.1) : Got w g' (.returned (.tuple #[v, .int .i64 g.2])) w' := by subst h; exact ⟨v, rfl, hx, hv⟩
theorem sk_fromQ {w0 w : World} {FS F : Nat → Prop} {L : Nat} {u : Value} {key : List UInt8} (hs : SkM w0 FS L s.m) (hx : Ext w0 w) (hu : Bs w F u key) (q : Nat) {o : Option Ent} (ho : toldE s key q = o) :
    Calls Try.prog 35 #[.pointer (some ⟨L, 0, none⟩), .agg #[u, .int .u64 ((min q 72057594037927935 : Nat) : Int), .int .u8 2]] w (Told w o) := by
  have h1 : u64V (UInt64.ofNat (min q 72057594037927935)) = .int .u64 ((min q 72057594037927935 : Nat) : Int) := by
    unfold u64V; rw [UInt64.toNat_ofNat_of_lt' (show min q 72057594037927935 < 18446744073709551616 by omega)]
  have := sk_fromM (k := ⟨key, UInt64.ofNat (min q 72057594037927935), 2⟩) w (hs.ext hx) (F := fun b => F b ∧ b < w.heap.size) (fun b hb => hb.2) (hu.belowM (by decide))
  rw [h1] at this
  subst ho
  exact this

set_option maxRecDepth 100000 in
set_option maxHeartbeats 1000000 in
theorem memo_get (h : MmS w Foot M s) {x : Value} (key : List UInt8) (hx : Bs w H x key) (q : Nat) :
    Calls Try.prog 73 #[.pointer (some ⟨M, 0, none⟩), x, .int .u64 (q : Int)] w (Got w (getE s key q)) := by
  obtain ⟨FS, FT, L, T, v, h0, -⟩ := h
  obtain ⟨X, K, k, rfl⟩ := hx.form0
  obtain ⟨m0, m1, m2, m3, mf⟩ := cells4 h0.blk
  obtain ⟨o, ho⟩ : ∃ o, toldE s key q = o := ⟨_, rfl⟩
  have hltM := h0.ltM
  have H0 := Lib.hid h0
  have Hx := Lib.hid hx
  have Ho := Lib.hid ho
  have HG : Hid (getE s key q = getV o key (coverE s.l key q)) := Lib.hid (by unfold getE; rw [ho])
  clear h0 hx ho
  go_enter Try.func73, Try.ntmps73
  go_wp2
  go_cut [8, 9] (fun s8 s9 wx => ∃ b u v, s8 = .pointer (some ⟨b, 0, none⟩) ∧ s9 = .bool o.isSome ∧ Fin w wx b u v o)
  case first =>
    refine region_B 13 (fun w' => w'.cell? ⟨M, 0, none⟩ = some (.pointer (some ⟨L, 0, none⟩))) (by kernel_rfl) ?q73_3S (fun hHeld0 => ?_)
    case q73_3S => ((first | go_keep | ((try dsimp only); first | exact j0 | exact k0 | exact m0)))
    refine anyB_take (i := 0) (oi := _) (v := ?q73_3v1) rfl (by kernel_rfl) (by kernel_rfl) (by kernel_rfl) (by kernel_rfl) (fun _ _ _ h => h) (Or.inl ⟨by rfl, ?q73_3h1⟩) (by assumption) ?q73_3r1
    case q73_3h1 => (intro w hSw; (try dsimp only at hSw); go_simp; try with_reducible rfl)
    (try simp only [List.getElem_toArray, List.getElem_cons_succ, List.getElem_cons_zero, Act.put, List.setIfInBounds_toArray, List.set_cons_zero, List.set_cons_succ])
    refine anyB_take (i := 1) (oi := _) (v := ?q73_3v2) rfl (by kernel_rfl) (by kernel_rfl) (by kernel_rfl) (by kernel_rfl) (fun _ _ _ h => h) (Or.inl ⟨by rfl, ?q73_3h2⟩) (by assumption) ?q73_3r2
    case q73_3h2 => (intro w hSw; (try dsimp only at hSw); go_simp; try with_reducible rfl)
    (try simp only [List.getElem_toArray, List.getElem_cons_succ, List.getElem_cons_zero, Act.put, List.setIfInBounds_toArray, List.set_cons_zero, List.set_cons_succ])
    refine anyB_take (i := 2) (oi := _) (v := ?q73_3v3) rfl (by kernel_rfl) (by kernel_rfl) (by kernel_rfl) (by kernel_rfl) (fun _ _ _ h => h) (Or.inl ⟨by rfl, ?q73_3h3⟩) (by assumption) ?q73_3r3
    case q73_3h3 => (intro w hSw; (try dsimp only at hSw); go_simp; try with_reducible rfl)
    (try simp only [List.getElem_toArray, List.getElem_cons_succ, List.getElem_cons_zero, Act.put, List.setIfInBounds_toArray, List.set_cons_zero, List.set_cons_succ])
    refine anyB_take (i := 3) (oi := _) (v := ?q73_3v4) rfl (by kernel_rfl) (by kernel_rfl) (by kernel_rfl) (by kernel_rfl) (fun _ _ _ h => h) (Or.inl ⟨by rfl, ?q73_3h4⟩) (by assumption) ?q73_3r4
    case q73_3h4 => (intro w hSw; (try dsimp only at hSw); go_simp; try with_reducible rfl)
    (try simp only [List.getElem_toArray, List.getElem_cons_succ, List.getElem_cons_zero, Act.put, List.setIfInBounds_toArray, List.set_cons_zero, List.set_cons_succ])
    refine anyB_take (i := 4) (oi := _) (v := ?q73_3v5) rfl (by kernel_rfl) (by kernel_rfl) (by kernel_rfl) (by kernel_rfl) (fun _ _ _ h => h) (Or.inl ⟨by rfl, ?q73_3h5⟩) (by assumption) ?q73_3r5
    case q73_3h5 => (intro w hSw; (try dsimp only at hSw); go_simp; try with_reducible rfl)
    (try simp only [List.getElem_toArray, List.getElem_cons_succ, List.getElem_cons_zero, Act.put, List.setIfInBounds_toArray, List.set_cons_zero, List.set_cons_succ])
    refine anyB_take (i := 5) (oi := _) (v := ?q73_3v6) rfl (by kernel_rfl) (by kernel_rfl) (by kernel_rfl) (by kernel_rfl) (fun _ _ _ h => h) (Or.inl ⟨by rfl, ?q73_3h6⟩) (by assumption) ?q73_3r6
    case q73_3h6 => (intro w hSw; (try dsimp only at hSw); go_simp; try with_reducible rfl)
    (try simp only [List.getElem_toArray, List.getElem_cons_succ, List.getElem_cons_zero, Act.put, List.setIfInBounds_toArray, List.set_cons_zero, List.set_cons_succ])
    refine anyB_two (i := 6) (j := 11) (oi := _) (oj := _) (by kernel_rfl) (by rfl) (by rfl) (by (simp only [List.getElem?_toArray, List.getElem?_cons_succ, List.getElem?_cons_zero] <;> rfl)) (by (simp only [List.getElem?_toArray, List.getElem?_cons_succ, List.getElem?_cons_zero] <;> rfl)) (fun K hK => ?q73_3x7) (fun K hK => ?q73_3y7)
    case q73_3x7 =>
      go_simp; go_at_call 137; refine (ikey_upto _ key (Hx.out.ext (by repeat' (first | exact Out.refl _ _ | refine Out.drew ?_ | refine Out.alloc ?_ _))) q).mono ?_; rintro r w2 ⟨u2, rfl, hx2, hu2⟩; obtain ⟨U2, N2, n2, rfl⟩ := hu2.form0; have HX2 : Hid (Ext w w2) := Lib.hid (Out.ext (by repeat' (first | exact Out.refl _ _ | refine Out.drew ?_ | refine Out.alloc ?_ _)) hx2); have k0 := HX2.out.cell m0 (fun f => f); have hs2 := hx2.size; (try simp only [World.size_drew, World.size_alloc] at hs2)
      (try dsimp only)
      refine hK.out _ _ ?q73_3S8 (fun hHeld1 => ?_)
      case q73_3S8 => ((first | go_keep | ((try dsimp only); first | exact j0 | exact k0 | exact m0)))
      clear hK K hHeld0
      (try simp only [List.getElem_toArray, List.getElem_cons_succ, List.getElem_cons_zero, Act.put, List.setIfInBounds_toArray, List.set_cons_zero, List.set_cons_succ])
      refine anyB_two (i := 7) (j := 11) (oi := _) (oj := _) (by kernel_rfl) (by rfl) (by rfl) (by (simp only [List.getElem?_toArray, List.getElem?_cons_succ, List.getElem?_cons_zero] <;> rfl)) (by (simp only [List.getElem?_toArray, List.getElem?_cons_succ, List.getElem?_cons_zero] <;> rfl)) (fun K hK => ?q73_3x9) (fun K hK => ?q73_3y9)
      case q73_3x9 =>
        go_simp; go_at_call 35; refine (sk_fromQ H0.out.sk (HX2.out) hu2 q Ho.out).mono ?_; rintro r w3 ⟨u3, v3, rfl, hx3, hu3, hv3⟩; obtain ⟨U3, N3, n3, rfl⟩ := hu3.form0; obtain ⟨V3, K3, k3, rfl⟩ := hv3.form0; have HX3 : Hid (Ext w w3) := Lib.hid (Out.ext (HX2.out) hx3); have j0 := HX3.out.cell m0 (fun f => f); have hs3 := hx3.size; (try simp only [World.size_drew, World.size_alloc] at hs3)
        (try dsimp only)
        refine hK.out _ _ ?q73_3S10 (fun hHeld2 => ?_)
        case q73_3S10 => ((first | go_keep | ((try dsimp only); first | exact j0 | exact k0 | exact m0)))
        clear hK K hHeld1
        (try simp only [List.getElem_toArray, List.getElem_cons_succ, List.getElem_cons_zero, Act.put, List.setIfInBounds_toArray, List.set_cons_zero, List.set_cons_succ])
        refine anyB_take (i := 8) (oi := _) (v := ?q73_3v11) rfl (by kernel_rfl) (by kernel_rfl) (by kernel_rfl) (by kernel_rfl) (fun _ _ _ h => h) (Or.inl ⟨by rfl, ?q73_3h11⟩) (by assumption) ?q73_3r11
        case q73_3h11 => (intro w hSw; (try dsimp only at hSw); go_simp; try with_reducible rfl)
        (try simp only [List.getElem_toArray, List.getElem_cons_succ, List.getElem_cons_zero, Act.put, List.setIfInBounds_toArray, List.set_cons_zero, List.set_cons_succ])
        refine anyB_take (i := 9) (oi := _) (v := ?q73_3v12) rfl (by kernel_rfl) (by kernel_rfl) (by kernel_rfl) (by kernel_rfl) (fun _ _ _ h => h) (Or.inl ⟨by rfl, ?q73_3h12⟩) (by assumption) ?q73_3r12
        case q73_3h12 => (intro w hSw; (try dsimp only at hSw); go_simp; try with_reducible rfl)
        (try simp only [List.getElem_toArray, List.getElem_cons_succ, List.getElem_cons_zero, Act.put, List.setIfInBounds_toArray, List.set_cons_zero, List.set_cons_succ])
        refine anyB_take (i := 10) (oi := _) (v := ?q73_3v13) rfl (by kernel_rfl) (by kernel_rfl) (by kernel_rfl) (by kernel_rfl) (fun _ _ _ h => h) (Or.inl ⟨by rfl, ?q73_3h13⟩) (by assumption) ?q73_3r13
        case q73_3h13 => (intro w hSw; (try dsimp only at hSw); go_simp; try with_reducible rfl)
        (try simp only [List.getElem_toArray, List.getElem_cons_succ, List.getElem_cons_zero, Act.put, List.setIfInBounds_toArray, List.set_cons_zero, List.set_cons_succ])
        refine anyB_step (i := 11) (o := _) (by kernel_rfl) (by rfl) (by (simp only [List.getElem?_toArray, List.getElem?_cons_succ, List.getElem?_cons_zero] <;> rfl)) (fun K hK => ?_)
        go_simp
        refine hK.out _ _ ?q73_3S14 (fun hHeld3 => ?_)
        case q73_3S14 => ((first | go_keep | ((try dsimp only); first | exact j0 | exact k0 | exact m0)))
        clear hK K hHeld2
        (try simp only [List.getElem_toArray, List.getElem_cons_succ, List.getElem_cons_zero, Act.put, List.setIfInBounds_toArray, List.set_cons_zero, List.set_cons_succ])
        refine anyB_step (i := 12) (o := _) (by kernel_rfl) (by rfl) (by (simp only [List.getElem?_toArray, List.getElem?_cons_succ, List.getElem?_cons_zero] <;> rfl)) (fun K hK => ?_)
        have FIN := Lib.hid (fin_new (o := o) HX3.out (hu3.mono (fun b hb _ => by omega) (.inl (by decide))) (hv3.mono (fun b hb _ => by omega) (.inl (by decide)))); go_simp
        refine hK.out _ _ ?q73_3S15 (fun hHeld4 => ?_)
        case q73_3S15 => (((try dsimp only); exact FIN.out.1.cell m0 (fun f => f)))
        clear hK K hHeld3
        (try simp only [List.getElem_toArray, List.getElem_cons_succ, List.getElem_cons_zero, Act.put, List.setIfInBounds_toArray, List.set_cons_zero, List.set_cons_succ])
        refine anyB_last (i := 13) (o := _) (by kernel_rfl) (by rfl) (by (simp only [List.getElem?_toArray, List.getElem?_cons_succ, List.getElem?_cons_zero] <;> rfl)) (fun K hK => ?_)
        go_simp
        refine hK.out _ _ ?_
        clear hK K
        (try simp only [List.getElem_toArray, List.getElem_cons_succ, List.getElem_cons_zero, Act.put, List.setIfInBounds_toArray, List.set_cons_zero, List.set_cons_succ])
        refine anyB_done (by kernel_rfl) ?_ _
        go_wp2
        go_meet
        exact ⟨_, _, _, rfl, rfl, FIN.out⟩
      case q73_3y9 =>
        go_simp
        refine hK.out _ _ ?q73_3S16 (fun hHeld2 => ?_)
        case q73_3S16 => ((first | go_keep | ((try dsimp only); first | exact j0 | exact k0 | exact m0)))
        clear hK K hHeld1
        (try simp only [List.getElem_toArray, List.getElem_cons_succ, List.getElem_cons_zero, Act.put, List.setIfInBounds_toArray, List.set_cons_zero, List.set_cons_succ])
        refine anyB_step (i := 7) (o := _) (by kernel_rfl) (by rfl) (by (simp only [List.getElem?_toArray, List.getElem?_cons_succ, List.getElem?_cons_zero] <;> rfl)) (fun K hK => ?_)
        go_simp; go_at_call 35; refine (sk_fromQ H0.out.sk (HX2.out.alloc _) (hu2.alloc _) q Ho.out).mono ?_; rintro r w3 ⟨u3, v3, rfl, hx3, hu3, hv3⟩; obtain ⟨U3, N3, n3, rfl⟩ := hu3.form0; obtain ⟨V3, K3, k3, rfl⟩ := hv3.form0; have HX3 : Hid (Ext w w3) := Lib.hid (Out.ext (HX2.out.alloc _) hx3); have j0 := HX3.out.cell m0 (fun f => f); have hs3 := hx3.size; (try simp only [World.size_drew, World.size_alloc] at hs3)
        (try dsimp only)
        refine hK.out _ _ ?q73_3S17 (fun hHeld3 => ?_)
        case q73_3S17 => ((first | go_keep | ((try dsimp only); first | exact j0 | exact k0 | exact m0)))
        clear hK K hHeld2
        (try simp only [List.getElem_toArray, List.getElem_cons_succ, List.getElem_cons_zero, Act.put, List.setIfInBounds_toArray, List.set_cons_zero, List.set_cons_succ])
        refine anyB_take (i := 8) (oi := _) (v := ?q73_3v18) rfl (by kernel_rfl) (by kernel_rfl) (by kernel_rfl) (by kernel_rfl) (fun _ _ _ h => h) (Or.inl ⟨by rfl, ?q73_3h18⟩) (by assumption) ?q73_3r18
        case q73_3h18 => (intro w hSw; (try dsimp only at hSw); go_simp; try with_reducible rfl)
        (try simp only [List.getElem_toArray, List.getElem_cons_succ, List.getElem_cons_zero, Act.put, List.setIfInBounds_toArray, List.set_cons_zero, List.set_cons_succ])
        refine anyB_take (i := 9) (oi := _) (v := ?q73_3v19) rfl (by kernel_rfl) (by kernel_rfl) (by kernel_rfl) (by kernel_rfl) (fun _ _ _ h => h) (Or.inl ⟨by rfl, ?q73_3h19⟩) (by assumption) ?q73_3r19
        case q73_3h19 => (intro w hSw; (try dsimp only at hSw); go_simp; try with_reducible rfl)
        (try simp only [List.getElem_toArray, List.getElem_cons_succ, List.getElem_cons_zero, Act.put, List.setIfInBounds_toArray, List.set_cons_zero, List.set_cons_succ])
        refine anyB_take (i := 10) (oi := _) (v := ?q73_3v20) rfl (by kernel_rfl) (by kernel_rfl) (by kernel_rfl) (by kernel_rfl) (fun _ _ _ h => h) (Or.inl ⟨by rfl, ?q73_3h20⟩) (by assumption) ?q73_3r20
        case q73_3h20 => (intro w hSw; (try dsimp only at hSw); go_simp; try with_reducible rfl)
        (try simp only [List.getElem_toArray, List.getElem_cons_succ, List.getElem_cons_zero, Act.put, List.setIfInBounds_toArray, List.set_cons_zero, List.set_cons_succ])
        refine anyB_step (i := 12) (o := _) (by kernel_rfl) (by rfl) (by (simp only [List.getElem?_toArray, List.getElem?_cons_succ, List.getElem?_cons_zero] <;> rfl)) (fun K hK => ?_)
        have HZ := Lib.hid (hx3.blk (blk_new w2 (.cells #[.slice none 0 0, .int .u64 0, .int .u8 0, .slice none 0 0] 32)) (fun f => f)); obtain ⟨t0, t1, t2, t3, tf⟩ := cells4 HZ.out; have FIN := Lib.hid (fin_set (o := o) HX3.out HZ.out (by omega) (hu3.mono (fun b hb _ => by (try simp at hb); omega) (.inl (by decide))) (hv3.mono (fun b hb _ => by (try simp at hb); omega) (.inl (by decide)))); go_simp
        refine hK.out _ _ ?q73_3S21 (fun hHeld4 => ?_)
        case q73_3S21 => (((try dsimp only); exact FIN.out.1.cell m0 (fun f => f)))
        clear hK K hHeld3
        (try simp only [List.getElem_toArray, List.getElem_cons_succ, List.getElem_cons_zero, Act.put, List.setIfInBounds_toArray, List.set_cons_zero, List.set_cons_succ])
        refine anyB_last (i := 13) (o := _) (by kernel_rfl) (by rfl) (by (simp only [List.getElem?_toArray, List.getElem?_cons_succ, List.getElem?_cons_zero] <;> rfl)) (fun K hK => ?_)
        go_simp
        refine hK.out _ _ ?_
        clear hK K
        (try simp only [List.getElem_toArray, List.getElem_cons_succ, List.getElem_cons_zero, Act.put, List.setIfInBounds_toArray, List.set_cons_zero, List.set_cons_succ])
        refine anyB_done (by kernel_rfl) ?_ _
        go_wp2
        go_meet
        exact ⟨_, _, _, rfl, rfl, FIN.out⟩
    case q73_3y7 =>
      go_simp
      refine hK.out _ _ ?q73_3S22 (fun hHeld1 => ?_)
      case q73_3S22 => ((first | go_keep | ((try dsimp only); first | exact j0 | exact k0 | exact m0)))
      clear hK K hHeld0
      (try simp only [List.getElem_toArray, List.getElem_cons_succ, List.getElem_cons_zero, Act.put, List.setIfInBounds_toArray, List.set_cons_zero, List.set_cons_succ])
      refine anyB_step (i := 6) (o := _) (by kernel_rfl) (by rfl) (by (simp only [List.getElem?_toArray, List.getElem?_cons_succ, List.getElem?_cons_zero] <;> rfl)) (fun K hK => ?_)
      go_simp; go_at_call 137; refine (ikey_upto _ key (Hx.out.ext (by repeat' (first | exact Out.refl _ _ | refine Out.drew ?_ | refine Out.alloc ?_ _))) q).mono ?_; rintro r w2 ⟨u2, rfl, hx2, hu2⟩; obtain ⟨U2, N2, n2, rfl⟩ := hu2.form0; have HX2 : Hid (Ext w w2) := Lib.hid (Out.ext (by repeat' (first | exact Out.refl _ _ | refine Out.drew ?_ | refine Out.alloc ?_ _)) hx2); have k0 := HX2.out.cell m0 (fun f => f); have hs2 := hx2.size; (try simp only [World.size_drew, World.size_alloc] at hs2)
      (try dsimp only)
      refine hK.out _ _ ?q73_3S23 (fun hHeld2 => ?_)
      case q73_3S23 => ((first | go_keep | ((try dsimp only); first | exact j0 | exact k0 | exact m0)))
      clear hK K hHeld1
      (try simp only [List.getElem_toArray, List.getElem_cons_succ, List.getElem_cons_zero, Act.put, List.setIfInBounds_toArray, List.set_cons_zero, List.set_cons_succ])
      refine anyB_step (i := 7) (o := _) (by kernel_rfl) (by rfl) (by (simp only [List.getElem?_toArray, List.getElem?_cons_succ, List.getElem?_cons_zero] <;> rfl)) (fun K hK => ?_)
      go_simp; go_at_call 35; refine (sk_fromQ H0.out.sk (HX2.out) hu2 q Ho.out).mono ?_; rintro r w3 ⟨u3, v3, rfl, hx3, hu3, hv3⟩; obtain ⟨U3, N3, n3, rfl⟩ := hu3.form0; obtain ⟨V3, K3, k3, rfl⟩ := hv3.form0; have HX3 : Hid (Ext w w3) := Lib.hid (Out.ext (HX2.out) hx3); have j0 := HX3.out.cell m0 (fun f => f); have hs3 := hx3.size; (try simp only [World.size_drew, World.size_alloc] at hs3)
      (try dsimp only)
      refine hK.out _ _ ?q73_3S24 (fun hHeld3 => ?_)
      case q73_3S24 => ((first | go_keep | ((try dsimp only); first | exact j0 | exact k0 | exact m0)))
      clear hK K hHeld2
      (try simp only [List.getElem_toArray, List.getElem_cons_succ, List.getElem_cons_zero, Act.put, List.setIfInBounds_toArray, List.set_cons_zero, List.set_cons_succ])
      refine anyB_take (i := 8) (oi := _) (v := ?q73_3v25) rfl (by kernel_rfl) (by kernel_rfl) (by kernel_rfl) (by kernel_rfl) (fun _ _ _ h => h) (Or.inl ⟨by rfl, ?q73_3h25⟩) (by assumption) ?q73_3r25
      case q73_3h25 => (intro w hSw; (try dsimp only at hSw); go_simp; try with_reducible rfl)
      (try simp only [List.getElem_toArray, List.getElem_cons_succ, List.getElem_cons_zero, Act.put, List.setIfInBounds_toArray, List.set_cons_zero, List.set_cons_succ])
      refine anyB_take (i := 9) (oi := _) (v := ?q73_3v26) rfl (by kernel_rfl) (by kernel_rfl) (by kernel_rfl) (by kernel_rfl) (fun _ _ _ h => h) (Or.inl ⟨by rfl, ?q73_3h26⟩) (by assumption) ?q73_3r26
      case q73_3h26 => (intro w hSw; (try dsimp only at hSw); go_simp; try with_reducible rfl)
      (try simp only [List.getElem_toArray, List.getElem_cons_succ, List.getElem_cons_zero, Act.put, List.setIfInBounds_toArray, List.set_cons_zero, List.set_cons_succ])
      refine anyB_take (i := 10) (oi := _) (v := ?q73_3v27) rfl (by kernel_rfl) (by kernel_rfl) (by kernel_rfl) (by kernel_rfl) (fun _ _ _ h => h) (Or.inl ⟨by rfl, ?q73_3h27⟩) (by assumption) ?q73_3r27
      case q73_3h27 => (intro w hSw; (try dsimp only at hSw); go_simp; try with_reducible rfl)
      (try simp only [List.getElem_toArray, List.getElem_cons_succ, List.getElem_cons_zero, Act.put, List.setIfInBounds_toArray, List.set_cons_zero, List.set_cons_succ])
      refine anyB_step (i := 12) (o := _) (by kernel_rfl) (by rfl) (by (simp only [List.getElem?_toArray, List.getElem?_cons_succ, List.getElem?_cons_zero] <;> rfl)) (fun K hK => ?_)
      have HZ := Lib.hid (hx3.blk (hx2.blk (blk_new _ (.cells #[.slice none 0 0, .int .u64 0, .int .u8 0, .slice none 0 0] 32)) (fun f => f)) (fun f => f)); obtain ⟨t0, t1, t2, t3, tf⟩ := cells4 HZ.out; have FIN := Lib.hid (fin_set (o := o) HX3.out HZ.out (by simp) (hu3.mono (fun b hb _ => by (try simp at hb); omega) (.inl (by decide))) (hv3.mono (fun b hb _ => by (try simp at hb); omega) (.inl (by decide)))); go_simp
      refine hK.out _ _ ?q73_3S28 (fun hHeld4 => ?_)
      case q73_3S28 => (((try dsimp only); exact FIN.out.1.cell m0 (fun f => f)))
      clear hK K hHeld3
      (try simp only [List.getElem_toArray, List.getElem_cons_succ, List.getElem_cons_zero, Act.put, List.setIfInBounds_toArray, List.set_cons_zero, List.set_cons_succ])
      refine anyB_last (i := 13) (o := _) (by kernel_rfl) (by rfl) (by (simp only [List.getElem?_toArray, List.getElem?_cons_succ, List.getElem?_cons_zero] <;> rfl)) (fun K hK => ?_)
      go_simp
      refine hK.out _ _ ?_
      clear hK K
      (try simp only [List.getElem_toArray, List.getElem_cons_succ, List.getElem_cons_zero, Act.put, List.setIfInBounds_toArray, List.set_cons_zero, List.set_cons_succ])
      refine anyB_done (by kernel_rfl) ?_ _
      go_wp2
      go_meet
      exact ⟨_, _, _, rfl, rfl, FIN.out⟩
  case rest =>
    obtain ⟨b, u, v, rfl, rfl, hfin⟩ := hcut
    obtain ⟨U, N1, n1, rfl⟩ := hfin.2.2.1.form0
    obtain ⟨V, N2, n2, rfl⟩ := hfin.2.2.2.form0
    obtain ⟨z0, z1, z2, z3, -⟩ := cells4 hfin.2.1
    have HF := Lib.hid hfin
    obtain ⟨y0, y1, y2, y3, yf⟩ := cells4 (hfin.1.blk H0.out.blk (fun f => f))
    have HE := Lib.hid (bytes_equal _ hfin.2.2.1 (Hx.out.ext hfin.1))
    have HC := Lib.hid (tomb_cover (H0.out.ext hfin.1).tb key (Hx.out.ext hfin.1) q)
    clear hfin
    generalize coverE s.l key q = c at *
    have hx := HF.out.1
    obtain ⟨is, his⟩ : ∃ is, o.isSome = is := ⟨_, rfl⟩
    obtain ⟨eb, heb⟩ : ∃ eb, ((o.getD zeroE).key.user == key) = eb := ⟨_, rfl⟩
    rw [heb] at HE
    rw [his]
    have His := Lib.hid his
    have Heb := Lib.hid heb
    clear his heb
    have hc1 : c = 0 ∨ ((c : Int) == 0) = false ∧ c ≠ 0 := by by_cases h : c = 0; exact .inl h; exact .inr ⟨by rw [beq_eq_false_iff_ne]; omega, h⟩
    cases is with
    | false =>
      rcases hc1 with hc | ⟨hc1, hc⟩
      · subst hc
        go_wp2_with (go_at_call 139; refine HC.out.mono ?_; rintro r w1 ⟨rfl, hx1⟩)
        refine bodyPost_ret (v := .tuple #[.slice none 0 0, .int .i64 0]) (by simp [results, Try.results73, go_sem]) rfl ?_
        exact got_of (g := ([], 0)) (HG.out.trans (by unfold getV; rw [if_neg (by rw [His.out]; simp), if_pos rfl])) (HF.out.1.ext hx1) (Sl.nil _ _ _)
      · have Hc := Lib.hid hc
        clear hc
        go_wp2_with (go_at_call 139; refine HC.out.mono ?_; rintro r w1 ⟨rfl, hx1⟩)
        refine bodyPost_ret (v := .tuple #[.slice none 0 0, .int .i64 2]) (by simp [results, Try.results73, go_sem]) rfl ?_
        exact got_of (g := ([], 2)) (HG.out.trans (by unfold getV; rw [if_neg (by rw [His.out]; simp), if_neg Hc.out])) (HF.out.1.ext hx1) (Sl.nil _ _ _)
    | true =>
      cases eb with
      | false =>
        rcases hc1 with hc | ⟨hc1, hc⟩
        · subst hc
          go_wp2_with (first | (go_at_call 138; refine HE.out.mono ?_; rintro r w1 ⟨rfl, rfl⟩) | (go_at_call 139; refine HC.out.mono ?_; rintro r w1 ⟨rfl, hx1⟩))
          refine bodyPost_ret (v := .tuple #[.slice none 0 0, .int .i64 0]) (by simp [results, Try.results73, go_sem]) rfl ?_
          exact got_of (g := ([], 0)) (HG.out.trans (by unfold getV; rw [if_neg (by rw [Heb.out]; simp), if_pos rfl])) (HF.out.1.ext hx1) (Sl.nil _ _ _)
        · have Hc := Lib.hid hc
          clear hc
          go_wp2_with (first | (go_at_call 138; refine HE.out.mono ?_; rintro r w1 ⟨rfl, rfl⟩) | (go_at_call 139; refine HC.out.mono ?_; rintro r w1 ⟨rfl, hx1⟩))
          refine bodyPost_ret (v := .tuple #[.slice none 0 0, .int .i64 2]) (by simp [results, Try.results73, go_sem]) rfl ?_
          exact got_of (g := ([], 2)) (HG.out.trans (by unfold getV; rw [if_neg (by rw [Heb.out]; simp), if_neg Hc.out])) (HF.out.1.ext hx1) (Sl.nil _ _ _)
      | true =>
        clear hc1
        have HV : Hid (getV o key c = if (o.getD zeroE).key.seq.toNat < c ∨ (o.getD zeroE).key.kind.toNat = 1 then ([], 2) else ((o.getD zeroE).value, 1)) := Lib.hid (by unfold getV; rw [if_pos ⟨His.out, Heb.out⟩])
        by_cases h1 : (o.getD zeroE).key.seq.toNat < c
        · have h1' : decide (((o.getD zeroE).key.seq.toNat : Int) < c) = true := by rw [decide_eq_true_iff]; omega
          go_wp2_with (first | (go_at_call 138; refine HE.out.mono ?_; rintro r w1 ⟨rfl, rfl⟩) | (go_at_call 139; refine HC.out.mono ?_; rintro r w1 ⟨rfl, hx1⟩; obtain ⟨t0, t1, t2, t3, tf⟩ := cells4 (hx1.blk HF.out.2.1 (fun f => f))))
          refine bodyPost_ret (v := .tuple #[.slice none 0 0, .int .i64 2]) (by simp [results, Try.results73, go_sem]) rfl ?_
          exact got_of (g := ([], 2)) (HG.out.trans (HV.out.trans (if_pos (.inl h1)))) (HF.out.1.ext hx1) (Sl.nil _ _ _)
        · by_cases h2 : (o.getD zeroE).key.kind.toNat = 1
          · have h2' : (((o.getD zeroE).key.kind.toNat : Int) == 1) = true := by rw [beq_iff_eq]; omega
            have H2 := Lib.hid h2
            clear h2
            go_wp2_with (first | (go_at_call 138; refine HE.out.mono ?_; rintro r w1 ⟨rfl, rfl⟩) | (go_at_call 139; refine HC.out.mono ?_; rintro r w1 ⟨rfl, hx1⟩; obtain ⟨t0, t1, t2, t3, tf⟩ := cells4 (hx1.blk HF.out.2.1 (fun f => f))))
            refine bodyPost_ret (v := .tuple #[.slice none 0 0, .int .i64 2]) (by simp [results, Try.results73, go_sem]) rfl ?_
            exact got_of (g := ([], 2)) (HG.out.trans (HV.out.trans (if_pos (.inr H2.out)))) (HF.out.1.ext hx1) (Sl.nil _ _ _)
          · have h2' : (((o.getD zeroE).key.kind.toNat : Int) == 1) = false := by rw [beq_eq_false_iff_ne]; omega
            go_wp2_with (first | (go_at_call 138; refine HE.out.mono ?_; rintro r w1 ⟨rfl, rfl⟩) | (go_at_call 139; refine HC.out.mono ?_; rintro r w1 ⟨rfl, hx1⟩; obtain ⟨t0, t1, t2, t3, tf⟩ := cells4 (hx1.blk HF.out.2.1 (fun f => f))))
            refine bodyPost_ret (v := .tuple #[.slice V N2 n2, .int .i64 1]) (by simp [results, Try.results73, go_sem]) rfl ?_
            exact got_of (g := ((o.getD zeroE).value, 1)) (HG.out.trans (HV.out.trans (if_neg (fun h => h.elim h1 h2)))) (HF.out.1.ext hx1) (HF.out.2.2.2.ext hx1)

theorem memo_getN (w : World) {x : Value} (key : List UInt8) (hx : Bs w H x key) (q : Nat) : Calls Try.prog 73 #[.pointer none, x, .int .u64 (q : Int)] w (Got w ([], 0)) := by
  obtain ⟨X, K, k, rfl⟩ := hx.form0
  clear hx
  go_enter Try.func73, Try.ntmps73
  go_wp2
  refine bodyPost_ret (v := .tuple #[.slice none 0 0, .int .i64 0]) (by simp [results, Try.results73, go_sem]) rfl ?_
  exact ⟨_, rfl, Out.refl _ _, Sl.nil _ _ _⟩
end
end Go.Proofs.Yteaanagljmcidaa
namespace Go.Proofs.Yteaanagljmcidaa
open Go.RowKit

section
variable {w w' : World} {Foot G H : Nat → Prop} {M : Nat} {s : MS}
def ToldL {α : Type} (c : Codec α) (w : World) (l : List α) (x : Ending) (w' : World) : Prop := ∃ v, x = .returned v ∧ Ext w w' ∧ Sl c w' (fun b => w.heap.size ≤ b) v l
theorem OwnedM.told {α : Type} {c : Codec α} {e : TypeId} {l : List α} {x : Ending} (h : OwnedM c e w l x w') (hs : 0 < c.size) (hl : l.length ≤ c.bound) : ToldL c w l x w' := by
  obtain ⟨v, hv, hx, ho⟩ := h
  exact ⟨v, hv, hx, ho.sl hs hl (fun _ hb _ => hb) (fun _ hb _ => hb)⟩
theorem memo_entriesE (h : MmS w Foot M s) {E : List Ent} (he : s.m.map (·.1) = E) (hE : E.length ≤ 1000000) : Calls Try.prog 89 #[.pointer (some ⟨M, 0, none⟩)] w (ToldL entC w E) := by
  subst he
  exact (memo_entries h).mono fun _ _ h => h.told (by decide) (by show _ ≤ 140737488355328; omega)
theorem memo_spansE (h : MmS w Foot M s) {l : List SpanE} (he : s.l = l) (hl : l.length ≤ 1000000) : Calls Try.prog 90 #[.pointer (some ⟨M, 0, none⟩)] w (ToldL spanC w l) := by
  subst he
  exact (memo_spans h hl).mono fun _ _ h => h.told (by decide) (by show _ ≤ 140737488355328; omega)
theorem memo_sizeE (h : MmS w Foot M s) {z : Int} (he : s.sz = z) : Calls Try.prog 84 #[.pointer (some ⟨M, 0, none⟩)] w fun e w' => e = .returned (.int .i64 z) ∧ w = w' := by
  subst he; exact memo_size h
theorem memo_lastE (h : MmS w Foot M s) {n : Nat} (he : s.last = n) : Calls Try.prog 76 #[.pointer (some ⟨M, 0, none⟩)] w fun e w' => e = .returned (.int .u64 (n : Int)) ∧ w = w' := by
  subst he; exact memo_last h
theorem r3_sameEq (w : World) {F G : Nat → Prop} {x y : Value} (a : List Ent) (hx : Sl entC w F x a) (hy : Sl entC w G y a) :
    Calls Try.prog 32 #[x, y] w fun e w' => e = .returned (.bool true) ∧ Ext w w' := by
  have := r3_sameEntries w a a hx hy
  rwa [decide_eq_true rfl] at this
end
end Go.Proofs.Yteaanagljmcidaa
