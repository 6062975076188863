/- memo: Batch. -/
import Derived.Test.YteaanagljmcidaaMemoB
import Derived.Test.YteaanagljmcidaaOpsB
namespace Go.Proofs.Yteaanagljmcidaa
open Go.RowKit

attribute [local go_sem ↓] Go.wp_at_zero Go.wp_at_succ

theorem fits54M : Fits Try.prog 54 3 intC.size 8 := fits_of Try.underlying54 (by decide) (by kernel_rfl : (Try.prog.info? 3).map (fun i => (i.zero, i.size, i.bytes)) = some (some (.int .i64 0), 1, 8)) rfl
theorem Sl.int {w : World} {F : Nat → Prop} {A : Option Addr} {n cap : Nat} {l : List Int} (h : Sl intC w F (.slice A n cap) l) (i : Nat) (hi : i < l.length) :
    ∃ b off, A = some ⟨b, off, none⟩ ∧ F b ∧ w.cell? ⟨b, off + i, none⟩ = some (.int .i64 l[i]) := by
  obtain ⟨b, off, cs, hA, hF, hat, hr⟩ := h.get i hi
  have hr' : cs = [.int .i64 l[i]] := hr.1
  subst hr'
  have h1 := hat.cell 0 _ rfl
  exact ⟨b, off, hA, hF, by simpa [intC] using h1⟩

/-- A memo's state. -/
structure MS where
  m : List (Ent × Nat)
  l : List SpanE
  sz : Int
  last : Nat
def MmS (w : World) (Foot : Nat → Prop) (M : Nat) (s : MS) : Prop := Mm w Foot M s.m s.l s.sz s.last
def MS.put (s : MS) (o : OpE) (q : Nat) (ht : Int) : MS := ⟨putM s.m o q ht, putL s.l o q, s.sz + opW o, q⟩
def batN (s : MS) (ops : List OpE) (q : Nat) (hs : List Int) : Nat → MS
  | 0 => s
  | i + 1 => match ops[i]? with
    | none => batN s ops q hs i
    | some o => (batN s ops q hs i).put o (q + i) (hs[i]?.getD 1)
theorem batN_succ {s : MS} {ops : List OpE} {q : Nat} {hs : List Int} {i : Nat} (hi : i < ops.length) : batN s ops q hs (i + 1) = (batN s ops q hs i).put ops[i] (q + i) (hs[i]?.getD 1) := by
  rw [batN, List.getElem?_eq_getElem hi]
def okS (s : MS) (n : Nat) : Prop := s.m.length ≤ n ∧ s.l.length ≤ n ∧ 0 ≤ s.sz ∧ s.sz ≤ n * 600
theorem insN_le (m : List (Ent × Nat)) (e : Ent) (h : Int) : (insN m e h).length ≤ m.length + 1 := by
  unfold insN
  split
  · rw [insM_length]; omega
  · omega
theorem okS.put {s : MS} {n : Nat} (h : okS s n) {o : OpE} (ho : ocheck o = 0) (q : Nat) (ht : Int) : okS (s.put o q ht) (n + 1) := by
  obtain ⟨h1, h2, h3, h4⟩ := h
  obtain ⟨_, _, k3, k4, _, _⟩ := ocheck_ok ho
  have h5 := insN_le s.m ⟨⟨o.key, UInt64.ofNat q, o.kind⟩, o.val⟩ ht
  refine ⟨?_, ?_, ?_, ?_⟩
  · show (putM s.m o q ht).length ≤ _
    unfold putM; split <;> omega
  · show (putL s.l o q).length ≤ _
    unfold putL; split
    · rw [List.length_append, List.length_singleton]; omega
    · omega
  · show 0 ≤ s.sz + opW o
    unfold opW; omega
  · show s.sz + opW o ≤ _
    unfold opW; omega
theorem okS.bat {s : MS} {n : Nat} (h : okS s n) {ops : List OpE} (ho : ∀ o ∈ ops, ocheck o = 0) (q : Nat) (hs : List Int) : ∀ i, i ≤ ops.length → okS (batN s ops q hs i) (n + i)
  | 0, _ => h
  | i + 1, hi => by
    rw [batN_succ (by omega)]
    exact (okS.bat h ho q hs i (by omega)).put (ho _ (List.getElem_mem _)) _ _

def tallI (h : Int) : Prop := 1 ≤ h ∧ h ≤ 8
instance (h : Int) : Decidable (tallI h) := by unfold tallI; infer_instance
/-- Are all heights right? -/
def tallL (n : Nat) (hs : List Int) : Prop := ∀ i (_ : i < n) (hi : i < hs.length), tallI hs[i]
noncomputable instance (n : Nat) (hs : List Int) : Decidable (tallL n hs) := Classical.propDecidable _
noncomputable def batR (last : Nat) (l : List OpE) (q : Nat) (hs : List Int) : Int :=
  if bcheck l ≠ 0 then bcheck l else if q = 0 ∨ 72057594037927935 < q ∨ 72057594037927935 < q + (max l.length 1 - 1) then 13 else if ¬ tallL l.length hs then 1 else if q ≤ last then 10 else 0
noncomputable def batS (s : MS) (l : List OpE) (q : Nat) (hs : List Int) : MS :=
  if batR s.last l q hs = 0 then batN s l q hs l.length else s

section
variable {w w' : World} {Foot G H : Nat → Prop} {M : Nat} {s : MS}

theorem memo_putZ (h : MmS w Foot M s) {u x : Value} (o : OpE) (hG : ∀ b, G b → b < w.heap.size) (hu : Bs w G u o.key) (hx : Bs w G x o.val) (z : Int) (q : Nat) (hz : z = q) (hok : ocheck o = 0) (hq0 : 0 < q) (hq : q ≤ 72057594037927935) {n : Nat} (hn : okS s n) (hn' : n < 80000) (t ht : Int) (htt : t = ht) :
    Calls Try.prog 145 #[.pointer (some ⟨M, 0, none⟩), .agg #[byteV o.kind, u, x], .int .u64 z, .int .i64 t] w fun e w' => e = .returned (.tuple #[]) ∧ Out Foot w w' ∧
      MmS w' (fun b => Foot b ∨ w.heap.size ≤ b) M (s.put o q ht) := by
  subst hz htt
  obtain ⟨h1, h2, h3, h4⟩ := hn
  exact memo_put h o hG hu hx q hok hq0 hq (by omega) (by omega) h3 (by omega) t

set_option maxRecDepth 100000 in
set_option maxHeartbeats 4000000 in
theorem memo_batch (h : MmS w Foot M s) {v hv : Value} (l : List OpE) (hs : List Int) (hl : Sl opC w G v l) (hh : Sl intC w H hv hs) (hG : ∀ b, G b → b < w.heap.size) (hGF : ∀ b, G b → ¬ Foot b) (hHF : ∀ b, H b → ¬ Foot b) (q : Nat) {n : Nat} (hn : okS s n) (hn' : n < 79000) :
    Calls Try.prog 87 #[.pointer (some ⟨M, 0, none⟩), v, .int .u64 (q : Int), hv] w fun e w' => e = .returned (.int .i64 (batR s.last l q hs)) ∧ Out Foot w w' ∧ MmS w' (fun b => Foot b ∨ w.heap.size ≤ b) M (batS s l q hs) := by
  obtain ⟨A, cap, rfl, h1, h2, h3, h4⟩ := hl.form
  have h3 : l.length ≤ 140737488355328 := h3
  obtain ⟨B, cap', rfl, g1, g2, g3, g4⟩ := hh.form
  have g3 : hs.length ≤ 140737488355328 := g3
  have HC := Lib.hid (batch_check w l hl)
  have Hl := Lib.hid hl
  have Hh := Lib.hid hh
  have H0 := Lib.hid h
  have HG := Lib.hid hG
  have HGF := Lib.hid hGF
  have HHF := Lib.hid hHF
  have Hn := Lib.hid hn
  have noC : ∀ w', Ext w w' → batR s.last l q hs ≠ 0 → Out Foot w w' ∧ MmS w' (fun b => Foot b ∨ w.heap.size ≤ b) M (batS s l q hs) := fun w' hx hr => ⟨hx.out _, by
    unfold batS; rw [if_neg hr]; exact Mm.mono (Mm.ext h hx) fun b _ hb => .inl hb⟩
  have NoC := Lib.hid noC
  have hlast : ∃ L T, w.heap[M]? = some (.cells #[.pointer (some ⟨L, 0, none⟩), .pointer (some ⟨T, 0, none⟩), .int .i64 s.sz, .int .u64 (s.last : Int)] 183) := by
    obtain ⟨FS, FT, L, T, v, h0, -⟩ := h; exact ⟨L, T, h0.blk⟩
  obtain ⟨L, T, hMb⟩ := hlast
  have HM := Lib.hid hMb
  clear h1 h2 h4 g1 g2 g4 hl hh h hG hGF hHF noC hn hMb
  by_cases hc : bcheck l = 0
  rotate_left
  · have hR : batR s.last l q hs = bcheck l := by unfold batR; exact if_pos hc
    have No := Lib.hid fun w' hx => NoC.out w' hx (by rw [hR]; exact hc)
    have HR := Lib.hid hR
    obtain ⟨c, hcc⟩ : ∃ c, bcheck l = c := ⟨_, rfl⟩
    rw [hcc] at HC hc HR
    have hcb : (c != 0) = true := by simpa using hc
    clear hR hcc hc NoC
    go_enter Try.func87, Try.ntmps87
    go_wp2_with (go_at_call 146; refine HC.out.mono ?_; rintro r w1 ⟨rfl, hx1⟩)
    go_ret
    exact ⟨ret_of HR.out.symm, No.out _ hx1⟩
  rw [hc] at HC
  have hl64 : l.length ≤ 64 := by
    apply Classical.byContradiction; intro h; unfold bcheck at hc; rw [if_pos (by omega)] at hc; cases hc
  have Hok : Hid (∀ o ∈ l, ocheck o = 0) := Lib.hid (by unfold bcheck at hc; rw [if_neg (by omega)] at hc; exact bcheckL_ok hc)
  by_cases hq : q = 0 ∨ 72057594037927935 < q ∨ 72057594037927935 < q + (max l.length 1 - 1)
  · have hR : batR s.last l q hs = 13 := by unfold batR; rw [if_neg (by simpa using hc), if_pos hq]
    have No := Lib.hid fun w' hx => NoC.out w' hx (by rw [hR]; decide)
    have HR := Lib.hid hR
    have Hq := Lib.hid hq
    clear hR NoC hc
    by_cases q0 : q = 0
    · subst q0
      clear hq
      go_enter Try.func87, Try.ntmps87
      go_wp2_with (go_at_call 146; refine HC.out.mono ?_; rintro r w1 ⟨rfl, hx1⟩)
      go_ret
      exact ⟨ret_of HR.out.symm, No.out _ hx1⟩
    · by_cases q1 : 72057594037927935 < q
      · have q0' : ((q : Int) == 0) = false := by rw [beq_eq_false_iff_ne]; omega
        have q1' : decide ((72057594037927935 : Int) < q) = true := by rw [decide_eq_true_iff]; omega
        clear hq q0
        go_enter Try.func87, Try.ntmps87
        go_wp2_with (go_at_call 146; refine HC.out.mono ?_; rintro r w1 ⟨rfl, hx1⟩)
        go_ret
        exact ⟨ret_of HR.out.symm, No.out _ hx1⟩
      · have q0' : ((q : Int) == 0) = false := by rw [beq_eq_false_iff_ne]; omega
        have q1' : decide ((72057594037927935 : Int) < q) = false := by rw [decide_eq_false_iff_not]; omega
        have q2 : 2 ≤ l.length := by omega
        have q3 : decide ((72057594037927935 : Int) - q < (l.length : Int) - 1) = true := by rw [decide_eq_true_iff]; omega
        clear hq
        go_enter Try.func87, Try.ntmps87
        go_wp2_with (go_at_call 146; refine HC.out.mono ?_; rintro r w1 ⟨rfl, hx1⟩)
        go_ret
        exact ⟨ret_of HR.out.symm, No.out _ hx1⟩
  have q0' : ((q : Int) == 0) = false := by rw [beq_eq_false_iff_ne]; omega
  have q1' : decide ((72057594037927935 : Int) < q) = false := by rw [decide_eq_false_iff_not]; omega
  have qm : q ≤ 72057594037927935 := by omega
  have Hq := Lib.hid hq
  have HR0 : Hid (batR s.last l q hs = if tallL l.length hs then (if q ≤ s.last then 10 else 0) else 1) := Lib.hid (by unfold batR; rw [if_neg (by simpa using hc), if_neg hq]; by_cases ht : tallL l.length hs <;> simp [ht])
  have hcs : l.length ≤ 0 ∨ 1 ≤ l.length ∧ l.length ≤ hs.length ∨ 1 ≤ l.length ∧ hs.length < l.length := by omega
  have q4 : l.length ≤ 0 → decide ((72057594037927935 : Int) - q < 0) = false := fun _ => by rw [decide_eq_false_iff_not]; omega
  have q5 : 1 ≤ l.length → decide ((72057594037927935 : Int) - q < (l.length : Int) - 1) = false := fun _ => by rw [decide_eq_false_iff_not]; omega
  have Q4 := Lib.hid q4
  have Q5 := Lib.hid q5
  clear hq hc q4 q5
  rcases hcs with c1 | ⟨c1, c2⟩ | ⟨c1, c2⟩
  · have q4 := Q4.out c1
    go_enter Try.func87, Try.ntmps87
    go_wp2_with (go_at_call 146; refine HC.out.mono ?_; rintro r w1 ⟨rfl, hx1⟩; have HX1 := Lib.hid hx1; clear hx1)
    go_loopw [42] (fun s42 wr => ∃ i : Nat, i ≤ l.length ∧ i ≤ hs.length ∧ s42 = .int .i64 i ∧ Ext w wr ∧ (∀ j (_ : j < i) (hj : j < hs.length), tallI hs[j])) (fun s42 _ => l.length - (intOf s42).toNat)
    case atStart => exact ⟨0, Nat.zero_le _, Nat.zero_le _, rfl, HX1.out, fun j hj => absurd hj (by omega)⟩
    case round =>
      obtain ⟨i, hi1, hi2, rfl, hxi, hall⟩ := hrel
      have HXi := Lib.hid hxi
      have Hall := Lib.hid hall
      clear hxi hall
      by_cases hlt : i < l.length ∧ i < hs.length
      · obtain ⟨hlt1, hlt2⟩ := hlt
        obtain ⟨b, off, rfl, -, c0⟩ := (Hh.out.ext HXi.out).int i hlt2
        by_cases ht : tallI hs[i]
        · have HT : Hid (∀ w, Calls Try.prog 144 #[.int .i64 hs[i]] w fun e w' => e = .returned (.bool true) ∧ w = w') := Lib.hid fun w => by have := memo_tall w hs[i]; rwa [show decide (1 ≤ hs[i] ∧ hs[i] ≤ 8) = true from decide_eq_true ht] at this
          have Ht := Lib.hid ht
          clear ht
          go_wp2_with (go_at_call 144; refine (HT.out _).mono ?_; rintro r w2 ⟨rfl, rfl⟩)
          go_roundw
          case rel => exact ⟨i + 1, by omega, by omega, by go_num, HXi.out, fun j hj hjl => by
            rcases Nat.lt_or_ge j i with h | h
            · exact Hall.out j h hjl
            · obtain rfl : j = i := by omega
              exact Ht.out⟩
          case measure => simp [intOf]; omega
        · have HT : Hid (∀ w, Calls Try.prog 144 #[.int .i64 hs[i]] w fun e w' => e = .returned (.bool false) ∧ w = w') := Lib.hid fun w => by have := memo_tall w hs[i]; rwa [show decide (1 ≤ hs[i] ∧ hs[i] ≤ 8) = false from decide_eq_false ht] at this
          have hR : batR s.last l q hs = 1 := by rw [HR0.out, if_neg (fun h => ht (h i hlt1 hlt2))]
          have HR := Lib.hid hR
          have No := Lib.hid (NoC.out _ HXi.out (by rw [hR]; decide))
          clear ht hR
          go_wp2_with (go_at_call 144; refine (HT.out _).mono ?_; rintro r w2 ⟨rfl, rfl⟩)
          go_ret
          exact ⟨ret_of HR.out.symm, No.out⟩
      · have htall : tallL l.length hs := fun j hj hjl => Hall.out j (by omega) hjl
        obtain rfl : i = l.length := by omega
        obtain ⟨m0, m1, m2, m3, mf⟩ := cells4 (HXi.out.blk HM.out (fun f => f))
        by_cases hla : q ≤ s.last
        · have hR : batR s.last l q hs = 10 := by rw [HR0.out, if_pos htall, if_pos hla]
          have HR := Lib.hid hR
          have No := Lib.hid (NoC.out _ HXi.out (by rw [hR]; decide))
          clear hR htall
          go_wp2
          go_ret
          exact ⟨ret_of HR.out.symm, No.out⟩
        · have hR : batR s.last l q hs = 0 := by rw [HR0.out, if_pos htall, if_neg hla]
          have HR := Lib.hid hR
          have HS : Hid (batS s l q hs = batN s l q hs l.length) := Lib.hid (by unfold batS; rw [if_pos hR])
          clear hR htall
          go_wp2
          go_loopw [60] (fun s60 wr2 => ∃ k : Nat, k ≤ l.length ∧ s60 = .int .i64 k ∧ Out Foot w wr2 ∧ MmS wr2 (fun b => Foot b ∨ w.heap.size ≤ b) M (batN s l q hs k)) (fun s60 _ => l.length - (intOf s60).toNat)
          case atStart => exact ⟨0, Nat.zero_le _, rfl, HXi.out.out _, Mm.mono (Mm.ext H0.out HXi.out) fun b _ hb => .inl hb⟩
          case round =>
            obtain ⟨wo, rfl⟩ : ∃ x : World, x = wr := ⟨_, rfl⟩
            obtain ⟨k, hk, rfl, hok, hmk⟩ := hrel
            have HOk := Lib.hid hok
            have HMk := Lib.hid hmk
            have hsz := hok.size
            clear hok hmk m0 m1 m2 m3 mf
            by_cases hlk : k < l.length
            · exfalso; omega
            · obtain rfl : k = l.length := by omega
              go_wp2
              go_ret
              exact ⟨ret_of HR.out.symm, HOk.out, by rw [HS.out]; exact HMk.out⟩
  · have q5 := Q5.out c1
    go_enter Try.func87, Try.ntmps87
    go_wp2_with (go_at_call 146; refine HC.out.mono ?_; rintro r w1 ⟨rfl, hx1⟩; have HX1 := Lib.hid hx1; clear hx1)
    go_loopw [42] (fun s42 wr => ∃ i : Nat, i ≤ l.length ∧ i ≤ hs.length ∧ s42 = .int .i64 i ∧ Ext w wr ∧ (∀ j (_ : j < i) (hj : j < hs.length), tallI hs[j])) (fun s42 _ => l.length - (intOf s42).toNat)
    case atStart => exact ⟨0, Nat.zero_le _, Nat.zero_le _, rfl, HX1.out, fun j hj => absurd hj (by omega)⟩
    case round =>
      obtain ⟨i, hi1, hi2, rfl, hxi, hall⟩ := hrel
      have HXi := Lib.hid hxi
      have Hall := Lib.hid hall
      clear hxi hall
      by_cases hlt : i < l.length ∧ i < hs.length
      · obtain ⟨hlt1, hlt2⟩ := hlt
        obtain ⟨b, off, rfl, -, c0⟩ := (Hh.out.ext HXi.out).int i hlt2
        by_cases ht : tallI hs[i]
        · have HT : Hid (∀ w, Calls Try.prog 144 #[.int .i64 hs[i]] w fun e w' => e = .returned (.bool true) ∧ w = w') := Lib.hid fun w => by have := memo_tall w hs[i]; rwa [show decide (1 ≤ hs[i] ∧ hs[i] ≤ 8) = true from decide_eq_true ht] at this
          have Ht := Lib.hid ht
          clear ht
          go_wp2_with (go_at_call 144; refine (HT.out _).mono ?_; rintro r w2 ⟨rfl, rfl⟩)
          go_roundw
          case rel => exact ⟨i + 1, by omega, by omega, by go_num, HXi.out, fun j hj hjl => by
            rcases Nat.lt_or_ge j i with h | h
            · exact Hall.out j h hjl
            · obtain rfl : j = i := by omega
              exact Ht.out⟩
          case measure => simp [intOf]; omega
        · have HT : Hid (∀ w, Calls Try.prog 144 #[.int .i64 hs[i]] w fun e w' => e = .returned (.bool false) ∧ w = w') := Lib.hid fun w => by have := memo_tall w hs[i]; rwa [show decide (1 ≤ hs[i] ∧ hs[i] ≤ 8) = false from decide_eq_false ht] at this
          have hR : batR s.last l q hs = 1 := by rw [HR0.out, if_neg (fun h => ht (h i hlt1 hlt2))]
          have HR := Lib.hid hR
          have No := Lib.hid (NoC.out _ HXi.out (by rw [hR]; decide))
          clear ht hR
          go_wp2_with (go_at_call 144; refine (HT.out _).mono ?_; rintro r w2 ⟨rfl, rfl⟩)
          go_ret
          exact ⟨ret_of HR.out.symm, No.out⟩
      · have htall : tallL l.length hs := fun j hj hjl => Hall.out j (by omega) hjl
        obtain rfl : i = l.length := by omega
        obtain ⟨m0, m1, m2, m3, mf⟩ := cells4 (HXi.out.blk HM.out (fun f => f))
        by_cases hla : q ≤ s.last
        · have hR : batR s.last l q hs = 10 := by rw [HR0.out, if_pos htall, if_pos hla]
          have HR := Lib.hid hR
          have No := Lib.hid (NoC.out _ HXi.out (by rw [hR]; decide))
          clear hR htall
          go_wp2
          go_ret
          exact ⟨ret_of HR.out.symm, No.out⟩
        · have hR : batR s.last l q hs = 0 := by rw [HR0.out, if_pos htall, if_neg hla]
          have HR := Lib.hid hR
          have HS : Hid (batS s l q hs = batN s l q hs l.length) := Lib.hid (by unfold batS; rw [if_pos hR])
          clear hR htall
          go_wp2
          go_loopw [60] (fun s60 wr2 => ∃ k : Nat, k ≤ l.length ∧ s60 = .int .i64 k ∧ Out Foot w wr2 ∧ MmS wr2 (fun b => Foot b ∨ w.heap.size ≤ b) M (batN s l q hs k)) (fun s60 _ => l.length - (intOf s60).toNat)
          case atStart => exact ⟨0, Nat.zero_le _, rfl, HXi.out.out _, Mm.mono (Mm.ext H0.out HXi.out) fun b _ hb => .inl hb⟩
          case round =>
            obtain ⟨wo, rfl⟩ : ∃ x : World, x = wr := ⟨_, rfl⟩
            obtain ⟨k, hk, rfl, hok, hmk⟩ := hrel
            have HOk := Lib.hid hok
            have HMk := Lib.hid hmk
            have hsz := hok.size
            clear hok hmk m0 m1 m2 m3 mf
            by_cases hlk : k < l.length
            · obtain ⟨b, off, u, x, rfl, -, c0, c1', c2', hu, hx⟩ := (Hl.out.out HOk.out (fun b _ hb => HGF.out b hb)).op k hlk
              obtain ⟨U, N1, n1, rfl⟩ := hu.form0
              obtain ⟨X, N2, n2, rfl⟩ := hx.form0
              have x1 := Ext.alloc1 wo (.cells #[byteV l[k].kind, .slice U N1 n1, .slice X N2 n2] 112)
              obtain ⟨z0, z1, z2, -⟩ := cells3 (blk_new wo (.cells #[byteV l[k].kind, .slice U N1 n1, .slice X N2 n2] 112))
              have Hu := Lib.hid (hu.ext x1)
              have Hx := Lib.hid (hx.ext x1)
              have HMx := Lib.hid (Mm.ext HMk.out x1)
              have X1 := Lib.hid x1
              have HlG : Hid (∀ b, G b → b < (wo.alloc (.cells #[byteV l[k].kind, .slice U N1 n1, .slice X N2 n2] 112)).heap.size) := Lib.hid fun b hb => Nat.lt_of_lt_of_le (Nat.lt_of_lt_of_le (HG.out b hb) hsz) x1.size
              have Hko := Lib.hid (Hok.out l[k] (List.getElem_mem hlk))
              have Hkn := Lib.hid (okS.bat Hn.out Hok.out q hs k (by omega))
              have Hsucc := Lib.hid (batN_succ (s := s) (q := q) (hs := hs) hlk)
              have hq72 : q + k ≤ 72057594037927935 := by have := Hq.out; omega
              have hq0 : 0 < q := by have := Hq.out; omega
              clear hu hx x1
              by_cases hkh : k < hs.length
              · obtain ⟨b', off', rfl, -, d0⟩ := ((Hh.out.out HOk.out (fun b _ hb => HHF.out b hb)).ext X1.out).int k hkh
                go_wp2_with (go_at_call 145; refine (memo_putZ (s := batN s l q hs k) HMx.out l[k] HlG.out Hu.out Hx.out _ (q + k) (by omega) Hko.out (by omega) hq72 Hkn.out (by omega) _ (hs[k]?.getD 1) (by simp [hkh])).mono ?_; rintro r w3 ⟨rfl, ho3, hm3⟩; have Ho3 := Lib.hid ho3; have Hm3 := Lib.hid hm3; clear ho3 hm3)
                go_roundw
                case rel => exact ⟨k + 1, by omega, by go_num, (HOk.out.ext X1.out).then Ho3.out (fun b hb h => h.elim id (fun h => by omega)), by rw [Hsucc.out]; exact Mm.mono Hm3.out fun b hb h => h.elim id fun h => .inr (by simp at h; omega)⟩
                case measure => simp [intOf]; omega
              · exfalso; omega
            · obtain rfl : k = l.length := by omega
              go_wp2
              go_ret
              exact ⟨ret_of HR.out.symm, HOk.out, by rw [HS.out]; exact HMk.out⟩
  · have q5 := Q5.out c1
    go_enter Try.func87, Try.ntmps87
    go_wp2_with (go_at_call 146; refine HC.out.mono ?_; rintro r w1 ⟨rfl, hx1⟩; have HX1 := Lib.hid hx1; clear hx1)
    go_loopw [42] (fun s42 wr => ∃ i : Nat, i ≤ l.length ∧ i ≤ hs.length ∧ s42 = .int .i64 i ∧ Ext w wr ∧ (∀ j (_ : j < i) (hj : j < hs.length), tallI hs[j])) (fun s42 _ => l.length - (intOf s42).toNat)
    case atStart => exact ⟨0, Nat.zero_le _, Nat.zero_le _, rfl, HX1.out, fun j hj => absurd hj (by omega)⟩
    case round =>
      obtain ⟨i, hi1, hi2, rfl, hxi, hall⟩ := hrel
      have HXi := Lib.hid hxi
      have Hall := Lib.hid hall
      clear hxi hall
      by_cases hlt : i < l.length ∧ i < hs.length
      · obtain ⟨hlt1, hlt2⟩ := hlt
        obtain ⟨b, off, rfl, -, c0⟩ := (Hh.out.ext HXi.out).int i hlt2
        by_cases ht : tallI hs[i]
        · have HT : Hid (∀ w, Calls Try.prog 144 #[.int .i64 hs[i]] w fun e w' => e = .returned (.bool true) ∧ w = w') := Lib.hid fun w => by have := memo_tall w hs[i]; rwa [show decide (1 ≤ hs[i] ∧ hs[i] ≤ 8) = true from decide_eq_true ht] at this
          have Ht := Lib.hid ht
          clear ht
          go_wp2_with (go_at_call 144; refine (HT.out _).mono ?_; rintro r w2 ⟨rfl, rfl⟩)
          go_roundw
          case rel => exact ⟨i + 1, by omega, by omega, by go_num, HXi.out, fun j hj hjl => by
            rcases Nat.lt_or_ge j i with h | h
            · exact Hall.out j h hjl
            · obtain rfl : j = i := by omega
              exact Ht.out⟩
          case measure => simp [intOf]; omega
        · have HT : Hid (∀ w, Calls Try.prog 144 #[.int .i64 hs[i]] w fun e w' => e = .returned (.bool false) ∧ w = w') := Lib.hid fun w => by have := memo_tall w hs[i]; rwa [show decide (1 ≤ hs[i] ∧ hs[i] ≤ 8) = false from decide_eq_false ht] at this
          have hR : batR s.last l q hs = 1 := by rw [HR0.out, if_neg (fun h => ht (h i hlt1 hlt2))]
          have HR := Lib.hid hR
          have No := Lib.hid (NoC.out _ HXi.out (by rw [hR]; decide))
          clear ht hR
          go_wp2_with (go_at_call 144; refine (HT.out _).mono ?_; rintro r w2 ⟨rfl, rfl⟩)
          go_ret
          exact ⟨ret_of HR.out.symm, No.out⟩
      · have htall : tallL l.length hs := fun j hj hjl => Hall.out j (by omega) hjl
        obtain rfl : i = hs.length := by omega
        obtain ⟨m0, m1, m2, m3, mf⟩ := cells4 (HXi.out.blk HM.out (fun f => f))
        by_cases hla : q ≤ s.last
        · have hR : batR s.last l q hs = 10 := by rw [HR0.out, if_pos htall, if_pos hla]
          have HR := Lib.hid hR
          have No := Lib.hid (NoC.out _ HXi.out (by rw [hR]; decide))
          clear hR htall
          go_wp2
          go_ret
          exact ⟨ret_of HR.out.symm, No.out⟩
        · have hR : batR s.last l q hs = 0 := by rw [HR0.out, if_pos htall, if_neg hla]
          have HR := Lib.hid hR
          have HS : Hid (batS s l q hs = batN s l q hs l.length) := Lib.hid (by unfold batS; rw [if_pos hR])
          clear hR htall
          go_wp2
          go_loopw [60] (fun s60 wr2 => ∃ k : Nat, k ≤ l.length ∧ s60 = .int .i64 k ∧ Out Foot w wr2 ∧ MmS wr2 (fun b => Foot b ∨ w.heap.size ≤ b) M (batN s l q hs k)) (fun s60 _ => l.length - (intOf s60).toNat)
          case atStart => exact ⟨0, Nat.zero_le _, rfl, HXi.out.out _, Mm.mono (Mm.ext H0.out HXi.out) fun b _ hb => .inl hb⟩
          case round =>
            obtain ⟨wo, rfl⟩ : ∃ x : World, x = wr := ⟨_, rfl⟩
            obtain ⟨k, hk, rfl, hok, hmk⟩ := hrel
            have HOk := Lib.hid hok
            have HMk := Lib.hid hmk
            have hsz := hok.size
            clear hok hmk m0 m1 m2 m3 mf
            by_cases hlk : k < l.length
            · obtain ⟨b, off, u, x, rfl, -, c0, c1', c2', hu, hx⟩ := (Hl.out.out HOk.out (fun b _ hb => HGF.out b hb)).op k hlk
              obtain ⟨U, N1, n1, rfl⟩ := hu.form0
              obtain ⟨X, N2, n2, rfl⟩ := hx.form0
              have x1 := Ext.alloc1 wo (.cells #[byteV l[k].kind, .slice U N1 n1, .slice X N2 n2] 112)
              obtain ⟨z0, z1, z2, -⟩ := cells3 (blk_new wo (.cells #[byteV l[k].kind, .slice U N1 n1, .slice X N2 n2] 112))
              have Hu := Lib.hid (hu.ext x1)
              have Hx := Lib.hid (hx.ext x1)
              have HMx := Lib.hid (Mm.ext HMk.out x1)
              have X1 := Lib.hid x1
              have HlG : Hid (∀ b, G b → b < (wo.alloc (.cells #[byteV l[k].kind, .slice U N1 n1, .slice X N2 n2] 112)).heap.size) := Lib.hid fun b hb => Nat.lt_of_lt_of_le (Nat.lt_of_lt_of_le (HG.out b hb) hsz) x1.size
              have Hko := Lib.hid (Hok.out l[k] (List.getElem_mem hlk))
              have Hkn := Lib.hid (okS.bat Hn.out Hok.out q hs k (by omega))
              have Hsucc := Lib.hid (batN_succ (s := s) (q := q) (hs := hs) hlk)
              have hq72 : q + k ≤ 72057594037927935 := by have := Hq.out; omega
              have hq0 : 0 < q := by have := Hq.out; omega
              clear hu hx x1
              by_cases hkh : k < hs.length
              · obtain ⟨b', off', rfl, -, d0⟩ := ((Hh.out.out HOk.out (fun b _ hb => HHF.out b hb)).ext X1.out).int k hkh
                go_wp2_with (go_at_call 145; refine (memo_putZ (s := batN s l q hs k) HMx.out l[k] HlG.out Hu.out Hx.out _ (q + k) (by omega) Hko.out (by omega) hq72 Hkn.out (by omega) _ (hs[k]?.getD 1) (by simp [hkh])).mono ?_; rintro r w3 ⟨rfl, ho3, hm3⟩; have Ho3 := Lib.hid ho3; have Hm3 := Lib.hid hm3; clear ho3 hm3)
                go_roundw
                case rel => exact ⟨k + 1, by omega, by go_num, (HOk.out.ext X1.out).then Ho3.out (fun b hb h => h.elim id (fun h => by omega)), by rw [Hsucc.out]; exact Mm.mono Hm3.out fun b hb h => h.elim id fun h => .inr (by simp at h; omega)⟩
                case measure => simp [intOf]; omega
              · go_wp2_with (go_at_call 145; refine (memo_putZ (s := batN s l q hs k) HMx.out l[k] HlG.out Hu.out Hx.out _ (q + k) (by omega) Hko.out (by omega) hq72 Hkn.out (by omega) _ (hs[k]?.getD 1) (by simp [hkh])).mono ?_; rintro r w3 ⟨rfl, ho3, hm3⟩; have Ho3 := Lib.hid ho3; have Hm3 := Lib.hid hm3; clear ho3 hm3)
                go_roundw
                case rel => exact ⟨k + 1, by omega, by go_num, (HOk.out.ext X1.out).then Ho3.out (fun b hb h => h.elim id (fun h => by omega)), by rw [Hsucc.out]; exact Mm.mono Hm3.out fun b hb h => h.elim id fun h => .inr (by simp at h; omega)⟩
                case measure => simp [intOf]; omega
            · obtain rfl : k = l.length := by omega
              go_wp2
              go_ret
              exact ⟨ret_of HR.out.symm, HOk.out, by rw [HS.out]; exact HMk.out⟩
end
end Go.Proofs.Yteaanagljmcidaa
