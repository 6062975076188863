/- memo: New, put, Do, Size, Last, Entries, Spans. memo: Do, Size, Last, Entries, Spans; of none, too. -/
import Derived.Test.YteaanagljmcidaaTombs
import Derived.Test.YteaanagljmcidaaOps
import Derived.Test.YteaanagljmcidaaSkAll
import Derived.Test.YteaanagljmcidaaRegB
namespace Go.Proofs.Yteaanagljmcidaa
open Go.RowKit

attribute [local go_sem ↓] Go.wp_at_zero Go.wp_at_succ

theorem Tb.mono {w : World} {F G : Nat → Prop} {T : Nat} {v : Value} {l : List SpanE} (h : Tb w F T v l) (hG : ∀ b, F b → b < w.heap.size → G b) (hT : ¬ G T) : Tb w G T v l := ⟨h.blk, h.own.mono hG, h.ne, hT⟩

/-- A memo's parts. -/
structure MmAt (w : World) (FS FT : Nat → Prop) (M L T : Nat) (v : Value) (m : List (Ent × Nat)) (l : List SpanE) (sz : Int) (last : Nat) : Prop where
  blk : w.heap[M]? = some (.cells #[.pointer (some ⟨L, 0, none⟩), .pointer (some ⟨T, 0, none⟩), .int .i64 sz, .int .u64 (last : Int)] 183)
  sk : SkM w FS L m
  tb : Tb w FT T v l
  sM : ¬ FS M
  sT : ¬ FS T
  sv : ∀ b, v.ownBlock = some b → ¬ FS b
  sF : ∀ b, FT b → ¬ FS b
  tM : M ≠ T
  vM : v.ownBlock ≠ some M
  fM : ¬ FT M
  lS : ∀ b, FS b → b < w.heap.size
  lF : ∀ b, FT b → b < w.heap.size
/-- A memo at M, in blocks of Foot. -/
def Mm (w : World) (Foot : Nat → Prop) (M : Nat) (m : List (Ent × Nat)) (l : List SpanE) (sz : Int) (last : Nat) : Prop :=
  ∃ FS FT L T v, MmAt w FS FT M L T v m l sz last ∧ (∀ b, FS b → Foot b) ∧ (∀ b, FT b → Foot b) ∧ Foot T ∧ Foot M ∧ (∀ b, v.ownBlock = some b → Foot b)

section
variable {w w' : World} {Foot G : Nat → Prop} {M L T : Nat} {v : Value} {m : List (Ent × Nat)} {l : List SpanE} {sz : Int} {last : Nat} {FS FT : Nat → Prop}

theorem MmAt.ltT (h : MmAt w FS FT M L T v m l sz last) : T < w.heap.size := blk_lt h.tb.blk
theorem MmAt.ltM (h : MmAt w FS FT M L T v m l sz last) : M < w.heap.size := blk_lt h.blk
theorem MmAt.ltv (h : MmAt w FS FT M L T v m l sz last) : ∀ b, v.ownBlock = some b → b < w.heap.size := fun b hb => (h.tb.own.lt b hb).2
theorem MmAt.frame {S : Nat → Prop} (h : MmAt w FS FT M L T v m l sz last) (ho : Out S w w') (h1 : ∀ b, FS b → ¬ S b) (h2 : ∀ b, FT b → ¬ S b) (h3 : ¬ S T) (h4 : ¬ S M) (h5 : ∀ b, v.ownBlock = some b → ¬ S b) : MmAt w' FS FT M L T v m l sz last :=
  ⟨ho.blk h.blk h4, h.sk.frame ho (fun b _ hb => h1 b hb), h.tb.frame ho h3 h5 (fun b _ hb => h2 b hb), h.sM, h.sT, h.sv, h.sF, h.tM, h.vM, h.fM, fun b hb => Nat.lt_of_lt_of_le (h.lS b hb) ho.size, fun b hb => Nat.lt_of_lt_of_le (h.lF b hb) ho.size⟩
theorem MmAt.ext (h : MmAt w FS FT M L T v m l sz last) (ho : Ext w w') : MmAt w' FS FT M L T v m l sz last :=
  h.frame ho (fun _ _ f => f) (fun _ _ f => f) (fun f => f) (fun f => f) (fun _ _ f => f)
theorem Mm.frame {S : Nat → Prop} (h : Mm w Foot M m l sz last) (ho : Out S w w') (hs : ∀ b, b < w.heap.size → Foot b → ¬ S b) : Mm w' Foot M m l sz last := by
  obtain ⟨FS, FT, L, T, v, h0, h1, h2, h3, h4, h5⟩ := h
  exact ⟨FS, FT, L, T, v, h0.frame ho (fun b hb => hs b (h0.lS b hb) (h1 b hb)) (fun b hb => hs b (h0.lF b hb) (h2 b hb)) (hs _ h0.ltT h3) (hs _ h0.ltM h4) (fun b hb => hs b (h0.ltv b hb) (h5 b hb)), h1, h2, h3, h4, h5⟩
theorem Mm.ext (h : Mm w Foot M m l sz last) (ho : Ext w w') : Mm w' Foot M m l sz last := h.frame ho fun _ _ _ f => f
theorem Mm.mono (h : Mm w Foot M m l sz last) (hg : ∀ b, b < w.heap.size → Foot b → G b) : Mm w G M m l sz last := by
  obtain ⟨FS, FT, L, T, v, h0, h1, h2, h3, h4, h5⟩ := h
  exact ⟨FS, FT, L, T, v, h0, fun b hb => hg b (h0.lS b hb) (h1 b hb), fun b hb => hg b (h0.lF b hb) (h2 b hb), hg _ h0.ltT h3, hg _ h0.ltM h4, fun b hb => hg b (h0.ltv b hb) (h5 b hb)⟩

theorem out_store (w : World) (M : Nat) (a b : Value) : Out (fun i => i = M) w ((w.setCell ⟨M, 2, none⟩ a).setCell ⟨M, 3, none⟩ b).drew :=
  ((((Out.refl (fun i => i = M) w).setCell (p := ⟨M, 2, none⟩) (fun _ => rfl) _).setCell (p := ⟨M, 3, none⟩) (fun _ => rfl) _)).drew
theorem MmAt.store (h : MmAt w FS FT M L T v m l sz last) (sz' : Int) (q : Nat) : MmAt ((w.setCell ⟨M, 2, none⟩ (.int .i64 sz')).setCell ⟨M, 3, none⟩ (.int .u64 (q : Int))).drew FS FT M L T v m l sz' q := by
  have ho := out_store w M (.int .i64 sz') (.int .u64 (q : Int))
  refine ⟨?_, h.sk.frame ho (fun b _ hb e => h.sM (e ▸ hb)), h.tb.frame ho (fun e => h.tM e.symm) (fun b hb e => h.vM (e ▸ hb)) (fun b _ hb e => h.fM (e ▸ hb)), h.sM, h.sT, h.sv, h.sF, h.tM, h.vM, h.fM, fun b hb => Nat.lt_of_lt_of_le (h.lS b hb) ho.size, fun b hb => Nat.lt_of_lt_of_le (h.lF b hb) ho.size⟩
  have := blk_set (blk_set h.blk 2 (.int .i64 sz')) 3 (.int .u64 (q : Int))
  show ((w.setCell ⟨M, 2, none⟩ _).setCell ⟨M, 3, none⟩ _).heap[M]? = _
  simpa using this

set_option maxRecDepth 100000 in
theorem memo_new (w : World) : Calls Try.prog 70 #[] w fun e w' => ∃ M, e = .returned (.pointer (some ⟨M, 0, none⟩)) ∧ Ext w w' ∧ Mm w' (fun b => w.heap.size ≤ b) M [] [] 0 0 := by
  go_enter Try.func70, Try.ntmps70
  go_wp2_with (first
    | (go_at_call 26; refine (sk_newM _).mono ?_; rintro r w1 ⟨L, rfl, hx1, hs1⟩; have HX1 := Lib.hid hx1; have Hs1 := Lib.hid hs1; clear hx1 hs1)
    | (go_at_call 117; refine (tomb_newNil _).mono ?_; rintro r w2 ⟨T, rfl, hx2, hT, hb2⟩; have HX2 := Lib.hid hx2; have HT := Lib.hid hT; have Hb2 := Lib.hid hb2; clear hx2 hb2 hT))
  go_ret
  have h1 := HX1.out.size
  have h2 := HX2.out.size
  have hTT := HT.out
  have hTl := blk_lt Hb2.out.blk
  have hS : SkM w1 (fun b => w.heap.size ≤ b ∧ b < w1.heap.size) L [] := Hs1.out.mono fun b hb h => ⟨h, hb⟩
  have hB : Tb w2 (fun b => w1.heap.size < b ∧ b < w2.heap.size) T (.slice none 0 0) [] := Hb2.out.mono (fun b hb h => ⟨hb, h⟩) (by omega)
  refine ⟨w2.heap.size, rfl, (HX1.out.ext HX2.out).alloc _, fun b => w.heap.size ≤ b ∧ b < w1.heap.size, fun b => w1.heap.size < b ∧ b < w2.heap.size, L, T, .slice none 0 0, ⟨blk_new _ _, (hS.ext HX2.out).ext (Ext.alloc1 _ _), hB.ext (Ext.alloc1 _ _), ?_, ?_, (fun b e => by cases e), ?_, ?_, (fun e => by cases e), ?_, ?_, ?_⟩, ?_, ?_, ?_, ?_, (fun b e => by cases e)⟩
  all_goals first
    | omega
    | (intro b hb; simp only [World.size_alloc] at *; omega)
    | (simp only [World.size_alloc] at *; omega)
theorem scheck_of {s : SpanE} (h1 : 0 < s.frm.length) (h2 : s.frm.length ≤ 64) (h3 : s.til.length ≤ 64) (h4 : Op.bytesLess s.frm s.til = true) (h5 : 0 < s.seq.toNat) (h6 : s.seq.toNat ≤ 72057594037927935) : scheck s = 0 := by
  unfold scheck
  rw [if_neg]
  rintro (h | h | h | h | h | h) <;> first | omega | (rw [h4] at h; cases h)

set_option maxRecDepth 100000 in
set_option maxHeartbeats 2000000 in
theorem memo_putR (h : Mm w Foot M m l sz last) {u x : Value} (key val : List UInt8) (hu : Bs w G u key) (hx : Bs w G x val) (q : Nat) (hc : scheck ⟨key, val, UInt64.ofNat q⟩ = 0) (hq : q < 18446744073709551616) (hl : l.length ≤ 1000000) (hs0 : 0 ≤ sz) (hs1 : sz ≤ 1000000000000) (hk : key.length ≤ 1000) (hv : val.length ≤ 1000) (ht : Int) :
    Calls Try.prog 145 #[.pointer (some ⟨M, 0, none⟩), .agg #[Value.int .u8 3, u, x], .int .u64 (q : Int), .int .i64 ht] w fun e w' => e = .returned (.tuple #[]) ∧ Out Foot w w' ∧
      Mm w' (fun b => Foot b ∨ w.heap.size ≤ b) M m (l ++ [⟨key, val, UInt64.ofNat q⟩]) (sz + (key.length + val.length + 16)) q := by
  obtain ⟨FS, FT, L, T, v, h0, f1, f2, f3, f4, f5⟩ := h
  obtain ⟨U, n, rfl, -⟩ := hu.form
  obtain ⟨X, k, rfl, -⟩ := hx.form
  have x1 := Ext.alloc1 w (.cells #[Value.int .u8 3, .slice U key.length n, .slice X val.length k] 112)
  have hz := blk_new w (.cells #[Value.int .u8 3, .slice U key.length n, .slice X val.length k] 112)
  obtain ⟨z0, z1, z2, -⟩ := cells3 hz
  have hm1 := x1.blk h0.blk (fun f => f)
  obtain ⟨m0, m1, m2, m3, mf⟩ := cells4 hm1
  have H0 := Lib.hid h0
  have HC := Lib.hid (tomb_add (h0.ext x1.drew).tb ⟨key, val, UInt64.ofNat q⟩ (hu.ext x1.drew) (hx.ext x1.drew) hc hl)
  have HM1 := Lib.hid (x1.drew.blk h0.blk (fun f => f))
  have HZ := Lib.hid (((Out.refl (fun _ => False) _).drew).blk hz (fun f => f))
  have hMv := Lib.hid h0.vM
  have hMT := Lib.hid h0.tM
  have hltM := h0.ltM
  have hltT := h0.ltT
  have hltv := Lib.hid h0.ltv
  have hq' : u64V (UInt64.ofNat q) = .int .u64 (q : Int) := by unfold u64V; rw [UInt64.toNat_ofNat_of_lt' hq]
  rw [hq'] at HC
  clear h0 hz x1 hm1 hu hx hc hq'
  go_enter Try.func145, Try.ntmps145
  go_wp2
  refine region_B 11 (fun w' => w'.cell? ⟨M, 1, none⟩ = some (.pointer (some ⟨T, 0, none⟩)) ∧ w'.cell? ⟨w.heap.size, 1, none⟩ = some (.slice U key.length n) ∧ w'.cell? ⟨w.heap.size, 2, none⟩ = some (.slice X val.length k)) (by kernel_rfl) ?q145_2S (fun hHeld0 => ?_)
  case q145_2S => ((first | go_keep | ((try dsimp only); exact ⟨by assumption, by assumption, by assumption⟩)))
  refine anyB_take (i := 0) (oi := _) (v := ?q145_2v1) rfl (by kernel_rfl) (by kernel_rfl) (by kernel_rfl) (by kernel_rfl) (fun _ _ _ h => h) (Or.inl ⟨by rfl, ?q145_2h1⟩) (by assumption) ?q145_2r1
  case q145_2h1 => (intro w hSw; (try dsimp only at hSw); go_simp; try with_reducible rfl)
  (try simp only [List.getElem_toArray, List.getElem_cons_succ, List.getElem_cons_zero, Act.put, List.setIfInBounds_toArray, List.set_cons_zero, List.set_cons_succ])
  refine anyB_take (i := 1) (oi := _) (v := ?q145_2v2) rfl (by kernel_rfl) (by kernel_rfl) (by kernel_rfl) (by kernel_rfl) (fun _ _ _ h => h) (Or.inl ⟨by rfl, ?q145_2h2⟩) (by assumption) ?q145_2r2
  case q145_2h2 => (intro w hSw; (try dsimp only at hSw); go_simp; try with_reducible rfl)
  (try simp only [List.getElem_toArray, List.getElem_cons_succ, List.getElem_cons_zero, Act.put, List.setIfInBounds_toArray, List.set_cons_zero, List.set_cons_succ])
  refine anyB_take (i := 2) (oi := _) (v := ?q145_2v3) rfl (by kernel_rfl) (by kernel_rfl) (by kernel_rfl) (by kernel_rfl) (fun _ _ _ h => h) (Or.inl ⟨by rfl, ?q145_2h3⟩) (by assumption) ?q145_2r3
  case q145_2h3 => (intro w hSw; (try dsimp only at hSw); go_simp; try with_reducible rfl)
  (try simp only [List.getElem_toArray, List.getElem_cons_succ, List.getElem_cons_zero, Act.put, List.setIfInBounds_toArray, List.set_cons_zero, List.set_cons_succ])
  refine anyB_take (i := 3) (oi := _) (v := ?q145_2v4) rfl (by kernel_rfl) (by kernel_rfl) (by kernel_rfl) (by kernel_rfl) (fun _ _ _ h => h) (Or.inl ⟨by rfl, ?q145_2h4⟩) (by assumption) ?q145_2r4
  case q145_2h4 => (intro w hSw; (try dsimp only at hSw); go_simp; try with_reducible rfl)
  (try simp only [List.getElem_toArray, List.getElem_cons_succ, List.getElem_cons_zero, Act.put, List.setIfInBounds_toArray, List.set_cons_zero, List.set_cons_succ])
  refine anyB_take (i := 4) (oi := _) (v := ?q145_2v5) rfl (by kernel_rfl) (by kernel_rfl) (by kernel_rfl) (by kernel_rfl) (fun _ _ _ h => h) (Or.inl ⟨by rfl, ?q145_2h5⟩) (by assumption) ?q145_2r5
  case q145_2h5 => (intro w hSw; (try dsimp only at hSw); go_simp; try with_reducible rfl)
  (try simp only [List.getElem_toArray, List.getElem_cons_succ, List.getElem_cons_zero, Act.put, List.setIfInBounds_toArray, List.set_cons_zero, List.set_cons_succ])
  refine anyB_take (i := 5) (oi := _) (v := ?q145_2v6) rfl (by kernel_rfl) (by kernel_rfl) (by kernel_rfl) (by kernel_rfl) (fun _ _ _ h => h) (Or.inl ⟨by rfl, ?q145_2h6⟩) (by assumption) ?q145_2r6
  case q145_2h6 => (intro w hSw; (try dsimp only at hSw); go_simp; try with_reducible rfl)
  (try simp only [List.getElem_toArray, List.getElem_cons_succ, List.getElem_cons_zero, Act.put, List.setIfInBounds_toArray, List.set_cons_zero, List.set_cons_succ])
  refine anyB_take (i := 6) (oi := _) (v := ?q145_2v7) rfl (by kernel_rfl) (by kernel_rfl) (by kernel_rfl) (by kernel_rfl) (fun _ _ _ h => h) (Or.inl ⟨by rfl, ?q145_2h7⟩) (by assumption) ?q145_2r7
  case q145_2h7 => (intro w hSw; (try dsimp only at hSw); go_simp; try with_reducible rfl)
  (try simp only [List.getElem_toArray, List.getElem_cons_succ, List.getElem_cons_zero, Act.put, List.setIfInBounds_toArray, List.set_cons_zero, List.set_cons_succ])
  refine anyB_take (i := 7) (oi := _) (v := ?q145_2v8) rfl (by kernel_rfl) (by kernel_rfl) (by kernel_rfl) (by kernel_rfl) (fun _ _ _ h => h) (Or.inl ⟨by rfl, ?q145_2h8⟩) (by assumption) ?q145_2r8
  case q145_2h8 => (intro w hSw; (try dsimp only at hSw); go_simp; try with_reducible rfl)
  (try simp only [List.getElem_toArray, List.getElem_cons_succ, List.getElem_cons_zero, Act.put, List.setIfInBounds_toArray, List.set_cons_zero, List.set_cons_succ])
  refine anyB_take (i := 8) (oi := _) (v := ?q145_2v9) rfl (by kernel_rfl) (by kernel_rfl) (by kernel_rfl) (by kernel_rfl) (fun _ _ _ h => h) (Or.inl ⟨by rfl, ?q145_2h9⟩) (by assumption) ?q145_2r9
  case q145_2h9 => (intro w hSw; (try dsimp only at hSw); go_simp; try with_reducible rfl)
  (try simp only [List.getElem_toArray, List.getElem_cons_succ, List.getElem_cons_zero, Act.put, List.setIfInBounds_toArray, List.set_cons_zero, List.set_cons_succ])
  refine anyB_take (i := 9) (oi := _) (v := ?q145_2v10) rfl (by kernel_rfl) (by kernel_rfl) (by kernel_rfl) (by kernel_rfl) (fun _ _ _ h => h) (Or.inl ⟨by rfl, ?q145_2h10⟩) (by assumption) ?q145_2r10
  case q145_2h10 => (intro w hSw; (try dsimp only at hSw); go_simp; try with_reducible rfl)
  (try simp only [List.getElem_toArray, List.getElem_cons_succ, List.getElem_cons_zero, Act.put, List.setIfInBounds_toArray, List.set_cons_zero, List.set_cons_succ])
  refine anyB_step (i := 10) (o := _) (by kernel_rfl) (by rfl) (by (simp only [List.getElem?_toArray, List.getElem?_cons_succ, List.getElem?_cons_zero] <;> rfl)) (fun K hK => ?_)
  go_simp; go_at_call 140; refine HC.out.mono ?_; rintro r w1 ⟨rfl, ho1, v', ht', hv'⟩; have Ho1 := Lib.hid ho1; have Ht' := Lib.hid ht'; have Hv' := Lib.hid hv'; have HM2 := Lib.hid (ho1.blk HM1.out (fun e => e.elim (fun e => hMT.out e) (fun e => hMv.out e))); have HZ2 := Lib.hid (ho1.blk HZ.out (fun e => e.elim (fun e => by omega) (fun e => by have := hltv.out _ e; omega))); obtain ⟨y0, y1, y2, -⟩ := cells3 HZ2.out; obtain ⟨n0, n1, n2, n3, nf⟩ := cells4 HM2.out; clear ho1 ht' hv'
  (try dsimp only)
  refine hK.out _ _ ?q145_2S11 (fun hHeld1 => ?_)
  case q145_2S11 => ((first | go_keep | ((try dsimp only); exact ⟨by assumption, by assumption, by assumption⟩)))
  clear hK K hHeld0
  (try simp only [List.getElem_toArray, List.getElem_cons_succ, List.getElem_cons_zero, Act.put, List.setIfInBounds_toArray, List.set_cons_zero, List.set_cons_succ])
  refine anyB_done (by kernel_rfl) ?_ _
  skip
  go_wp2
  refine region_B 15 (fun w' => w'.cell? ⟨M, 2, none⟩ = some (.int .i64 sz) ∧ w'.cell? ⟨w.heap.size, 1, none⟩ = some (.slice U key.length n) ∧ w'.cell? ⟨w.heap.size, 2, none⟩ = some (.slice X val.length k)) (by kernel_rfl) ?q145_4S (fun hHeld0 => ?_)
  case q145_4S => ((first | go_keep | ((try dsimp only); exact ⟨by assumption, by assumption, by assumption⟩)))
  refine anyB_take (i := 0) (oi := _) (v := ?q145_4v1) rfl (by kernel_rfl) (by kernel_rfl) (by kernel_rfl) (by kernel_rfl) (fun _ _ _ h => h) (Or.inl ⟨by rfl, ?q145_4h1⟩) (by assumption) ?q145_4r1
  case q145_4h1 => (intro w hSw; (try dsimp only at hSw); go_simp; try with_reducible rfl)
  (try simp only [List.getElem_toArray, List.getElem_cons_succ, List.getElem_cons_zero, Act.put, List.setIfInBounds_toArray, List.set_cons_zero, List.set_cons_succ])
  refine anyB_take (i := 1) (oi := _) (v := ?q145_4v2) rfl (by kernel_rfl) (by kernel_rfl) (by kernel_rfl) (by kernel_rfl) (fun _ _ _ h => h) (Or.inl ⟨by rfl, ?q145_4h2⟩) (by assumption) ?q145_4r2
  case q145_4h2 => (intro w hSw; (try dsimp only at hSw); go_simp; try with_reducible rfl)
  (try simp only [List.getElem_toArray, List.getElem_cons_succ, List.getElem_cons_zero, Act.put, List.setIfInBounds_toArray, List.set_cons_zero, List.set_cons_succ])
  refine anyB_take (i := 2) (oi := _) (v := ?q145_4v3) rfl (by kernel_rfl) (by kernel_rfl) (by kernel_rfl) (by kernel_rfl) (fun _ _ _ h => h) (Or.inl ⟨by rfl, ?q145_4h3⟩) (by assumption) ?q145_4r3
  case q145_4h3 => (intro w hSw; (try dsimp only at hSw); go_simp; try with_reducible rfl)
  (try simp only [List.getElem_toArray, List.getElem_cons_succ, List.getElem_cons_zero, Act.put, List.setIfInBounds_toArray, List.set_cons_zero, List.set_cons_succ])
  refine anyB_take (i := 3) (oi := _) (v := ?q145_4v4) rfl (by kernel_rfl) (by kernel_rfl) (by kernel_rfl) (by kernel_rfl) (fun _ _ _ h => h) (Or.inl ⟨by rfl, ?q145_4h4⟩) (by assumption) ?q145_4r4
  case q145_4h4 => (intro w hSw; (try dsimp only at hSw); go_simp; try with_reducible rfl)
  (try simp only [List.getElem_toArray, List.getElem_cons_succ, List.getElem_cons_zero, Act.put, List.setIfInBounds_toArray, List.set_cons_zero, List.set_cons_succ])
  refine anyB_take (i := 4) (oi := _) (v := ?q145_4v5) rfl (by kernel_rfl) (by kernel_rfl) (by kernel_rfl) (by kernel_rfl) (fun _ _ _ h => h) (Or.inl ⟨by rfl, ?q145_4h5⟩) (by assumption) ?q145_4r5
  case q145_4h5 => (intro w hSw; (try dsimp only at hSw); go_simp; try with_reducible rfl)
  (try simp only [List.getElem_toArray, List.getElem_cons_succ, List.getElem_cons_zero, Act.put, List.setIfInBounds_toArray, List.set_cons_zero, List.set_cons_succ])
  refine anyB_take (i := 5) (oi := _) (v := ?q145_4v6) rfl (by kernel_rfl) (by kernel_rfl) (by kernel_rfl) (by kernel_rfl) (fun _ _ _ h => h) (Or.inl ⟨by rfl, ?q145_4h6⟩) (by assumption) ?q145_4r6
  case q145_4h6 => (intro w hSw; (try dsimp only at hSw); go_simp; try with_reducible rfl)
  (try simp only [List.getElem_toArray, List.getElem_cons_succ, List.getElem_cons_zero, Act.put, List.setIfInBounds_toArray, List.set_cons_zero, List.set_cons_succ])
  refine anyB_take (i := 6) (oi := _) (v := ?q145_4v7) rfl (by kernel_rfl) (by kernel_rfl) (by kernel_rfl) (by kernel_rfl) (fun _ _ _ h => h) (Or.inl ⟨by rfl, ?q145_4h7⟩) (by assumption) ?q145_4r7
  case q145_4h7 => (intro w hSw; (try dsimp only at hSw); go_simp; try with_reducible rfl)
  (try simp only [List.getElem_toArray, List.getElem_cons_succ, List.getElem_cons_zero, Act.put, List.setIfInBounds_toArray, List.set_cons_zero, List.set_cons_succ])
  refine anyB_take (i := 7) (oi := _) (v := ?q145_4v8) rfl (by kernel_rfl) (by kernel_rfl) (by kernel_rfl) (by kernel_rfl) (fun _ _ _ h => h) (Or.inl ⟨by rfl, ?q145_4h8⟩) (by assumption) ?q145_4r8
  case q145_4h8 => (intro w hSw; (try dsimp only at hSw); go_simp; try with_reducible rfl)
  (try simp only [List.getElem_toArray, List.getElem_cons_succ, List.getElem_cons_zero, Act.put, List.setIfInBounds_toArray, List.set_cons_zero, List.set_cons_succ])
  refine anyB_take (i := 8) (oi := _) (v := ?q145_4v9) rfl (by kernel_rfl) (by kernel_rfl) (by kernel_rfl) (by kernel_rfl) (fun _ _ _ h => h) (Or.inl ⟨by rfl, ?q145_4h9⟩) (by assumption) ?q145_4r9
  case q145_4h9 => (intro w hSw; (try dsimp only at hSw); go_simp; try with_reducible rfl)
  (try simp only [List.getElem_toArray, List.getElem_cons_succ, List.getElem_cons_zero, Act.put, List.setIfInBounds_toArray, List.set_cons_zero, List.set_cons_succ])
  refine anyB_take (i := 9) (oi := _) (v := ?q145_4v10) rfl (by kernel_rfl) (by kernel_rfl) (by kernel_rfl) (by kernel_rfl) (fun _ _ _ h => h) (Or.inl ⟨by rfl, ?q145_4h10⟩) (by assumption) ?q145_4r10
  case q145_4h10 => (intro w hSw; (try dsimp only at hSw); go_simp; try with_reducible rfl)
  (try simp only [List.getElem_toArray, List.getElem_cons_succ, List.getElem_cons_zero, Act.put, List.setIfInBounds_toArray, List.set_cons_zero, List.set_cons_succ])
  refine anyB_take (i := 10) (oi := _) (v := ?q145_4v11) rfl (by kernel_rfl) (by kernel_rfl) (by kernel_rfl) (by kernel_rfl) (fun _ _ _ h => h) (Or.inl ⟨by rfl, ?q145_4h11⟩) (by assumption) ?q145_4r11
  case q145_4h11 => (intro w hSw; (try dsimp only at hSw); go_simp; try with_reducible rfl)
  (try simp only [List.getElem_toArray, List.getElem_cons_succ, List.getElem_cons_zero, Act.put, List.setIfInBounds_toArray, List.set_cons_zero, List.set_cons_succ])
  refine anyB_take (i := 11) (oi := _) (v := ?q145_4v12) rfl (by kernel_rfl) (by kernel_rfl) (by kernel_rfl) (by kernel_rfl) (fun _ _ _ h => h) (Or.inl ⟨by rfl, ?q145_4h12⟩) (by assumption) ?q145_4r12
  case q145_4h12 => (intro w hSw; (try dsimp only at hSw); go_simp; try with_reducible rfl)
  (try simp only [List.getElem_toArray, List.getElem_cons_succ, List.getElem_cons_zero, Act.put, List.setIfInBounds_toArray, List.set_cons_zero, List.set_cons_succ])
  refine anyB_take (i := 12) (oi := _) (v := ?q145_4v13) rfl (by kernel_rfl) (by kernel_rfl) (by kernel_rfl) (by kernel_rfl) (fun _ _ _ h => h) (Or.inl ⟨by rfl, ?q145_4h13⟩) (by assumption) ?q145_4r13
  case q145_4h13 => (intro w hSw; (try dsimp only at hSw); go_simp; try with_reducible rfl)
  (try simp only [List.getElem_toArray, List.getElem_cons_succ, List.getElem_cons_zero, Act.put, List.setIfInBounds_toArray, List.set_cons_zero, List.set_cons_succ])
  refine anyB_step (i := 13) (o := _) (by kernel_rfl) (by rfl) (by (simp only [List.getElem?_toArray, List.getElem?_cons_succ, List.getElem?_cons_zero] <;> rfl)) (fun K hK => ?_)
  go_simp
  refine hK.out _ _ ?q145_4S14 (fun hHeld1 => ?_)
  case q145_4S14 => ((first | go_keep | ((try dsimp only); exact ⟨by assumption, by assumption, by assumption⟩)))
  clear hK K hHeld0
  (try simp only [List.getElem_toArray, List.getElem_cons_succ, List.getElem_cons_zero, Act.put, List.setIfInBounds_toArray, List.set_cons_zero, List.set_cons_succ])
  refine anyB_take (i := 14) (oi := _) (v := ?q145_4v15) rfl (by kernel_rfl) (by kernel_rfl) (by kernel_rfl) (by kernel_rfl) (fun _ _ _ h => h) (Or.inl ⟨by rfl, ?q145_4h15⟩) (by assumption) ?q145_4r15
  case q145_4h15 => (intro w hSw; (try dsimp only at hSw); go_simp; try with_reducible rfl)
  (try simp only [List.getElem_toArray, List.getElem_cons_succ, List.getElem_cons_zero, Act.put, List.setIfInBounds_toArray, List.set_cons_zero, List.set_cons_succ])
  refine anyB_last (i := 15) (o := _) (by kernel_rfl) (by rfl) (by (simp only [List.getElem?_toArray, List.getElem?_cons_succ, List.getElem?_cons_zero] <;> rfl)) (fun K hK => ?_)
  go_simp
  refine hK.out _ _ ?_
  clear hK K
  (try simp only [List.getElem_toArray, List.getElem_cons_succ, List.getElem_cons_zero, Act.put, List.setIfInBounds_toArray, List.set_cons_zero, List.set_cons_succ])
  refine anyB_done (by kernel_rfl) ?_ _
  go_wp2
  go_end0
  have hsz1 := Ho1.out.size
  simp only [World.size_drew, World.size_alloc] at hsz1
  have hx1 : Ext w (w.alloc (.cells #[Value.int .u8 3, .slice U key.length n, .slice X val.length k] 112)).drew := (Ext.alloc1 _ _).drew
  have hA : MmAt w1 FS (fun b => (FT b ∨ w.heap.size ≤ b) ∧ b < w1.heap.size) M L T v' m (l ++ [⟨key, val, UInt64.ofNat q⟩]) sz last := ⟨HM2.out, (H0.out.ext hx1).sk.frame Ho1.out (fun b _ hb e => e.elim (fun e => H0.out.sT (e ▸ hb)) (fun e => H0.out.sv b e hb)), Ht'.out.mono (fun b hb hl => ⟨hb.imp id (fun h => by simp at h; omega), hl⟩) (fun h => h.1.elim (fun h => H0.out.tb.cold h) (fun h => by omega)), H0.out.sM, H0.out.sT, (fun b hb => Hv'.out.elim (fun e => H0.out.sv b (e ▸ hb)) (fun ⟨g, e, hg⟩ h => by rw [e] at hb; injection hb with hb; have := H0.out.lS b h; simp at hg; omega)), (fun b hb => hb.1.elim (fun h => H0.out.sF b h) (fun h hs => by have := H0.out.lS b hs; omega)), H0.out.tM, (fun hb => Hv'.out.elim (fun e => H0.out.vM (e ▸ hb)) (fun ⟨g, e, hg⟩ => by rw [e] at hb; injection hb with hb; simp at hg; omega)), (fun h => h.1.elim (fun h => H0.out.fM h) (fun h => by omega)), (fun b hb => Nat.lt_of_lt_of_le (H0.out.lS b hb) (by omega)), (fun b hb => hb.2)⟩
  refine ⟨rfl, ((Ext.out hx1 Foot).trans (Ho1.out.mono (fun b _ hb => hb.elim (fun e => e ▸ f3) (fun e => f5 b e)))).trans ((out_store w1 M _ _).mono (fun b _ e => e ▸ f4)), FS, _, L, T, v', hA.store _ _, (fun b hb => .inl (f1 b hb)), (fun b hb => hb.1.imp (f2 b) id), .inl f3, .inl f4, fun b hb => Hv'.out.elim (fun e => .inl (f5 b (e ▸ hb))) (fun ⟨g, e, hg⟩ => .inr (by rw [e] at hb; injection hb with hb; simp at hg; omega))⟩

set_option maxRecDepth 100000 in
set_option maxHeartbeats 2000000 in
theorem memo_putI (h : Mm w Foot M m l sz last) {u x : Value} (kd : UInt8) (key val : List UInt8) (hG : ∀ b, G b → b < w.heap.size) (hu : Bs w G u key) (hx : Bs w G x val) (q : Nat) (hq : q < 18446744073709551616) (hm : m.length < 90000) (hs0 : 0 ≤ sz) (hs1 : sz ≤ 1000000000000) (hk : key.length ≤ 1000) (hv : val.length ≤ 1000) (hk3 : kd.toNat ≠ 3) (ht : Int) :
    Calls Try.prog 145 #[.pointer (some ⟨M, 0, none⟩), .agg #[.int .u8 (kd.toNat : Int), u, x], .int .u64 (q : Int), .int .i64 ht] w fun e w' => e = .returned (.tuple #[]) ∧ Out Foot w w' ∧
      Mm w' (fun b => Foot b ∨ w.heap.size ≤ b) M (insN m ⟨⟨key, UInt64.ofNat q, kd⟩, val⟩ ht) l (sz + (key.length + val.length + 16)) q := by
  obtain ⟨FS, FT, L, T, v, h0, f1, f2, f3, f4, f5⟩ := h
  obtain ⟨U, n, rfl, -⟩ := hu.form
  obtain ⟨X, k, rfl, -⟩ := hx.form
  have x1 := Ext.alloc1 w (.cells #[.int .u8 (kd.toNat : Int), .slice U key.length n, .slice X val.length k] 112)
  have hz := blk_new w (.cells #[.int .u8 (kd.toNat : Int), .slice U key.length n, .slice X val.length k] 112)
  obtain ⟨z0, z1, z2, -⟩ := cells3 hz
  have hm1 := x1.blk h0.blk (fun f => f)
  obtain ⟨m0, m1, m2, m3, mf⟩ := cells4 hm1
  have H0 := Lib.hid h0
  have hC := sk_insert (e := ⟨⟨key, UInt64.ofNat q, kd⟩, val⟩) (h0.ext x1.drew).sk hm (F := fun b => b < w.heap.size) (fun b hb => by simp; omega) ((hu.ext x1.drew).mono (fun b hb _ => hG b hb) (.inl (by decide))) ((hx.ext x1.drew).mono (fun b hb _ => hG b hb) (.inl (by decide))) ht
  have hq' : u64V (UInt64.ofNat q) = .int .u64 (q : Int) := by unfold u64V; rw [UInt64.toNat_ofNat_of_lt' hq]
  dsimp only at hC
  rw [hq', show byteV kd = .int .u8 (kd.toNat : Int) from rfl] at hC
  have HC := Lib.hid hC
  have HM1 := Lib.hid (x1.drew.blk h0.blk (fun f => f))
  have HZ := Lib.hid (((Out.refl (fun _ => False) _).drew).blk hz (fun f => f))
  have hltM := h0.ltM
  have hltT := h0.ltT
  have hltv := Lib.hid h0.ltv
  clear h0 hz x1 hm1 hu hx hq' hC
  generalize hinsN : insN m ⟨⟨key, UInt64.ofNat q, kd⟩, val⟩ ht = mN at *
  clear hinsN
  go_enter Try.func145, Try.ntmps145
  go_wp2
  refine region_B 15 (fun w' => w'.cell? ⟨M, 0, none⟩ = some (.pointer (some ⟨L, 0, none⟩)) ∧ w'.cell? ⟨w.heap.size, 0, none⟩ = some (.int .u8 (kd.toNat : Int)) ∧ w'.cell? ⟨w.heap.size, 1, none⟩ = some (.slice U key.length n) ∧ w'.cell? ⟨w.heap.size, 2, none⟩ = some (.slice X val.length k)) (by kernel_rfl) ?q145_3S (fun hHeld0 => ?_)
  case q145_3S => ((first | go_keep | ((try dsimp only); exact ⟨by assumption, by assumption, by assumption, by assumption⟩)))
  refine anyB_take (i := 0) (oi := _) (v := ?q145_3v1) rfl (by kernel_rfl) (by kernel_rfl) (by kernel_rfl) (by kernel_rfl) (fun _ _ _ h => h) (Or.inl ⟨by rfl, ?q145_3h1⟩) (by assumption) ?q145_3r1
  case q145_3h1 => (intro w hSw; (try dsimp only at hSw); go_simp; try with_reducible rfl)
  (try simp only [List.getElem_toArray, List.getElem_cons_succ, List.getElem_cons_zero, Act.put, List.setIfInBounds_toArray, List.set_cons_zero, List.set_cons_succ])
  refine anyB_take (i := 1) (oi := _) (v := ?q145_3v2) rfl (by kernel_rfl) (by kernel_rfl) (by kernel_rfl) (by kernel_rfl) (fun _ _ _ h => h) (Or.inl ⟨by rfl, ?q145_3h2⟩) (by assumption) ?q145_3r2
  case q145_3h2 => (intro w hSw; (try dsimp only at hSw); go_simp; try with_reducible rfl)
  (try simp only [List.getElem_toArray, List.getElem_cons_succ, List.getElem_cons_zero, Act.put, List.setIfInBounds_toArray, List.set_cons_zero, List.set_cons_succ])
  refine anyB_take (i := 2) (oi := _) (v := ?q145_3v3) rfl (by kernel_rfl) (by kernel_rfl) (by kernel_rfl) (by kernel_rfl) (fun _ _ _ h => h) (Or.inl ⟨by rfl, ?q145_3h3⟩) (by assumption) ?q145_3r3
  case q145_3h3 => (intro w hSw; (try dsimp only at hSw); go_simp; try with_reducible rfl)
  (try simp only [List.getElem_toArray, List.getElem_cons_succ, List.getElem_cons_zero, Act.put, List.setIfInBounds_toArray, List.set_cons_zero, List.set_cons_succ])
  refine anyB_take (i := 3) (oi := _) (v := ?q145_3v4) rfl (by kernel_rfl) (by kernel_rfl) (by kernel_rfl) (by kernel_rfl) (fun _ _ _ h => h) (Or.inl ⟨by rfl, ?q145_3h4⟩) (by assumption) ?q145_3r4
  case q145_3h4 => (intro w hSw; (try dsimp only at hSw); go_simp; try with_reducible rfl)
  (try simp only [List.getElem_toArray, List.getElem_cons_succ, List.getElem_cons_zero, Act.put, List.setIfInBounds_toArray, List.set_cons_zero, List.set_cons_succ])
  refine anyB_take (i := 4) (oi := _) (v := ?q145_3v5) rfl (by kernel_rfl) (by kernel_rfl) (by kernel_rfl) (by kernel_rfl) (fun _ _ _ h => h) (Or.inl ⟨by rfl, ?q145_3h5⟩) (by assumption) ?q145_3r5
  case q145_3h5 => (intro w hSw; (try dsimp only at hSw); go_simp; try with_reducible rfl)
  (try simp only [List.getElem_toArray, List.getElem_cons_succ, List.getElem_cons_zero, Act.put, List.setIfInBounds_toArray, List.set_cons_zero, List.set_cons_succ])
  refine anyB_take (i := 5) (oi := _) (v := ?q145_3v6) rfl (by kernel_rfl) (by kernel_rfl) (by kernel_rfl) (by kernel_rfl) (fun _ _ _ h => h) (Or.inl ⟨by rfl, ?q145_3h6⟩) (by assumption) ?q145_3r6
  case q145_3h6 => (intro w hSw; (try dsimp only at hSw); go_simp; try with_reducible rfl)
  (try simp only [List.getElem_toArray, List.getElem_cons_succ, List.getElem_cons_zero, Act.put, List.setIfInBounds_toArray, List.set_cons_zero, List.set_cons_succ])
  refine anyB_take (i := 6) (oi := _) (v := ?q145_3v7) rfl (by kernel_rfl) (by kernel_rfl) (by kernel_rfl) (by kernel_rfl) (fun _ _ _ h => h) (Or.inl ⟨by rfl, ?q145_3h7⟩) (by assumption) ?q145_3r7
  case q145_3h7 => (intro w hSw; (try dsimp only at hSw); go_simp; try with_reducible rfl)
  (try simp only [List.getElem_toArray, List.getElem_cons_succ, List.getElem_cons_zero, Act.put, List.setIfInBounds_toArray, List.set_cons_zero, List.set_cons_succ])
  refine anyB_take (i := 7) (oi := _) (v := ?q145_3v8) rfl (by kernel_rfl) (by kernel_rfl) (by kernel_rfl) (by kernel_rfl) (fun _ _ _ h => h) (Or.inl ⟨by rfl, ?q145_3h8⟩) (by assumption) ?q145_3r8
  case q145_3h8 => (intro w hSw; (try dsimp only at hSw); go_simp; try with_reducible rfl)
  (try simp only [List.getElem_toArray, List.getElem_cons_succ, List.getElem_cons_zero, Act.put, List.setIfInBounds_toArray, List.set_cons_zero, List.set_cons_succ])
  refine anyB_take (i := 8) (oi := _) (v := ?q145_3v9) rfl (by kernel_rfl) (by kernel_rfl) (by kernel_rfl) (by kernel_rfl) (fun _ _ _ h => h) (Or.inl ⟨by rfl, ?q145_3h9⟩) (by assumption) ?q145_3r9
  case q145_3h9 => (intro w hSw; (try dsimp only at hSw); go_simp; try with_reducible rfl)
  (try simp only [List.getElem_toArray, List.getElem_cons_succ, List.getElem_cons_zero, Act.put, List.setIfInBounds_toArray, List.set_cons_zero, List.set_cons_succ])
  refine anyB_take (i := 9) (oi := _) (v := ?q145_3v10) rfl (by kernel_rfl) (by kernel_rfl) (by kernel_rfl) (by kernel_rfl) (fun _ _ _ h => h) (Or.inl ⟨by rfl, ?q145_3h10⟩) (by assumption) ?q145_3r10
  case q145_3h10 => (intro w hSw; (try dsimp only at hSw); go_simp; try with_reducible rfl)
  (try simp only [List.getElem_toArray, List.getElem_cons_succ, List.getElem_cons_zero, Act.put, List.setIfInBounds_toArray, List.set_cons_zero, List.set_cons_succ])
  refine anyB_take (i := 10) (oi := _) (v := ?q145_3v11) rfl (by kernel_rfl) (by kernel_rfl) (by kernel_rfl) (by kernel_rfl) (fun _ _ _ h => h) (Or.inl ⟨by rfl, ?q145_3h11⟩) (by assumption) ?q145_3r11
  case q145_3h11 => (intro w hSw; (try dsimp only at hSw); go_simp; try with_reducible rfl)
  (try simp only [List.getElem_toArray, List.getElem_cons_succ, List.getElem_cons_zero, Act.put, List.setIfInBounds_toArray, List.set_cons_zero, List.set_cons_succ])
  refine anyB_take (i := 11) (oi := _) (v := ?q145_3v12) rfl (by kernel_rfl) (by kernel_rfl) (by kernel_rfl) (by kernel_rfl) (fun _ _ _ h => h) (Or.inl ⟨by rfl, ?q145_3h12⟩) (by assumption) ?q145_3r12
  case q145_3h12 => (intro w hSw; (try dsimp only at hSw); go_simp; try with_reducible rfl)
  (try simp only [List.getElem_toArray, List.getElem_cons_succ, List.getElem_cons_zero, Act.put, List.setIfInBounds_toArray, List.set_cons_zero, List.set_cons_succ])
  refine anyB_take (i := 12) (oi := _) (v := ?q145_3v13) rfl (by kernel_rfl) (by kernel_rfl) (by kernel_rfl) (by kernel_rfl) (fun _ _ _ h => h) (Or.inl ⟨by rfl, ?q145_3h13⟩) (by assumption) ?q145_3r13
  case q145_3h13 => (intro w hSw; (try dsimp only at hSw); go_simp; try with_reducible rfl)
  (try simp only [List.getElem_toArray, List.getElem_cons_succ, List.getElem_cons_zero, Act.put, List.setIfInBounds_toArray, List.set_cons_zero, List.set_cons_succ])
  refine anyB_take (i := 13) (oi := _) (v := ?q145_3v14) rfl (by kernel_rfl) (by kernel_rfl) (by kernel_rfl) (by kernel_rfl) (fun _ _ _ h => h) (Or.inl ⟨by rfl, ?q145_3h14⟩) (by assumption) ?q145_3r14
  case q145_3h14 => (intro w hSw; (try dsimp only at hSw); go_simp; try with_reducible rfl)
  (try simp only [List.getElem_toArray, List.getElem_cons_succ, List.getElem_cons_zero, Act.put, List.setIfInBounds_toArray, List.set_cons_zero, List.set_cons_succ])
  refine anyB_step (i := 14) (o := _) (by kernel_rfl) (by rfl) (by (simp only [List.getElem?_toArray, List.getElem?_cons_succ, List.getElem?_cons_zero] <;> rfl)) (fun K hK => ?_)
  go_simp; go_at_call 28; refine HC.out.mono ?_; rintro r w1 ⟨rfl, ho1, hs'⟩; have Ho1 := Lib.hid ho1; have Hs' := Lib.hid hs'; have HM2 := Lib.hid (ho1.blk HM1.out H0.out.sM); have HZ2 := Lib.hid (ho1.blk HZ.out (fun e => by have := H0.out.lS _ e; omega)); obtain ⟨y0, y1, y2, -⟩ := cells3 HZ2.out; obtain ⟨n0, n1, n2, n3, nf⟩ := cells4 HM2.out; clear ho1 hs'
  (try dsimp only)
  refine hK.out _ _ ?q145_3S15 (fun hHeld1 => ?_)
  case q145_3S15 => ((first | go_keep | ((try dsimp only); exact ⟨by assumption, by assumption, by assumption, by assumption⟩)))
  clear hK K hHeld0
  (try simp only [List.getElem_toArray, List.getElem_cons_succ, List.getElem_cons_zero, Act.put, List.setIfInBounds_toArray, List.set_cons_zero, List.set_cons_succ])
  refine anyB_done (by kernel_rfl) ?_ _
  skip
  go_wp2
  refine region_B 15 (fun w' => w'.cell? ⟨M, 2, none⟩ = some (.int .i64 sz) ∧ w'.cell? ⟨w.heap.size, 1, none⟩ = some (.slice U key.length n) ∧ w'.cell? ⟨w.heap.size, 2, none⟩ = some (.slice X val.length k)) (by kernel_rfl) ?q145_4b1S (fun hHeld0 => ?_)
  case q145_4b1S => ((first | go_keep | ((try dsimp only); exact ⟨by assumption, by assumption, by assumption⟩)))
  refine anyB_take (i := 0) (oi := _) (v := ?q145_4b1v1) rfl (by kernel_rfl) (by kernel_rfl) (by kernel_rfl) (by kernel_rfl) (fun _ _ _ h => h) (Or.inl ⟨by rfl, ?q145_4b1h1⟩) (by assumption) ?q145_4b1r1
  case q145_4b1h1 => (intro w hSw; (try dsimp only at hSw); go_simp; try with_reducible rfl)
  (try simp only [List.getElem_toArray, List.getElem_cons_succ, List.getElem_cons_zero, Act.put, List.setIfInBounds_toArray, List.set_cons_zero, List.set_cons_succ])
  refine anyB_take (i := 1) (oi := _) (v := ?q145_4b1v2) rfl (by kernel_rfl) (by kernel_rfl) (by kernel_rfl) (by kernel_rfl) (fun _ _ _ h => h) (Or.inl ⟨by rfl, ?q145_4b1h2⟩) (by assumption) ?q145_4b1r2
  case q145_4b1h2 => (intro w hSw; (try dsimp only at hSw); go_simp; try with_reducible rfl)
  (try simp only [List.getElem_toArray, List.getElem_cons_succ, List.getElem_cons_zero, Act.put, List.setIfInBounds_toArray, List.set_cons_zero, List.set_cons_succ])
  refine anyB_take (i := 2) (oi := _) (v := ?q145_4b1v3) rfl (by kernel_rfl) (by kernel_rfl) (by kernel_rfl) (by kernel_rfl) (fun _ _ _ h => h) (Or.inl ⟨by rfl, ?q145_4b1h3⟩) (by assumption) ?q145_4b1r3
  case q145_4b1h3 => (intro w hSw; (try dsimp only at hSw); go_simp; try with_reducible rfl)
  (try simp only [List.getElem_toArray, List.getElem_cons_succ, List.getElem_cons_zero, Act.put, List.setIfInBounds_toArray, List.set_cons_zero, List.set_cons_succ])
  refine anyB_take (i := 3) (oi := _) (v := ?q145_4b1v4) rfl (by kernel_rfl) (by kernel_rfl) (by kernel_rfl) (by kernel_rfl) (fun _ _ _ h => h) (Or.inl ⟨by rfl, ?q145_4b1h4⟩) (by assumption) ?q145_4b1r4
  case q145_4b1h4 => (intro w hSw; (try dsimp only at hSw); go_simp; try with_reducible rfl)
  (try simp only [List.getElem_toArray, List.getElem_cons_succ, List.getElem_cons_zero, Act.put, List.setIfInBounds_toArray, List.set_cons_zero, List.set_cons_succ])
  refine anyB_take (i := 4) (oi := _) (v := ?q145_4b1v5) rfl (by kernel_rfl) (by kernel_rfl) (by kernel_rfl) (by kernel_rfl) (fun _ _ _ h => h) (Or.inl ⟨by rfl, ?q145_4b1h5⟩) (by assumption) ?q145_4b1r5
  case q145_4b1h5 => (intro w hSw; (try dsimp only at hSw); go_simp; try with_reducible rfl)
  (try simp only [List.getElem_toArray, List.getElem_cons_succ, List.getElem_cons_zero, Act.put, List.setIfInBounds_toArray, List.set_cons_zero, List.set_cons_succ])
  refine anyB_take (i := 5) (oi := _) (v := ?q145_4b1v6) rfl (by kernel_rfl) (by kernel_rfl) (by kernel_rfl) (by kernel_rfl) (fun _ _ _ h => h) (Or.inl ⟨by rfl, ?q145_4b1h6⟩) (by assumption) ?q145_4b1r6
  case q145_4b1h6 => (intro w hSw; (try dsimp only at hSw); go_simp; try with_reducible rfl)
  (try simp only [List.getElem_toArray, List.getElem_cons_succ, List.getElem_cons_zero, Act.put, List.setIfInBounds_toArray, List.set_cons_zero, List.set_cons_succ])
  refine anyB_take (i := 6) (oi := _) (v := ?q145_4b1v7) rfl (by kernel_rfl) (by kernel_rfl) (by kernel_rfl) (by kernel_rfl) (fun _ _ _ h => h) (Or.inl ⟨by rfl, ?q145_4b1h7⟩) (by assumption) ?q145_4b1r7
  case q145_4b1h7 => (intro w hSw; (try dsimp only at hSw); go_simp; try with_reducible rfl)
  (try simp only [List.getElem_toArray, List.getElem_cons_succ, List.getElem_cons_zero, Act.put, List.setIfInBounds_toArray, List.set_cons_zero, List.set_cons_succ])
  refine anyB_take (i := 7) (oi := _) (v := ?q145_4b1v8) rfl (by kernel_rfl) (by kernel_rfl) (by kernel_rfl) (by kernel_rfl) (fun _ _ _ h => h) (Or.inl ⟨by rfl, ?q145_4b1h8⟩) (by assumption) ?q145_4b1r8
  case q145_4b1h8 => (intro w hSw; (try dsimp only at hSw); go_simp; try with_reducible rfl)
  (try simp only [List.getElem_toArray, List.getElem_cons_succ, List.getElem_cons_zero, Act.put, List.setIfInBounds_toArray, List.set_cons_zero, List.set_cons_succ])
  refine anyB_take (i := 8) (oi := _) (v := ?q145_4b1v9) rfl (by kernel_rfl) (by kernel_rfl) (by kernel_rfl) (by kernel_rfl) (fun _ _ _ h => h) (Or.inl ⟨by rfl, ?q145_4b1h9⟩) (by assumption) ?q145_4b1r9
  case q145_4b1h9 => (intro w hSw; (try dsimp only at hSw); go_simp; try with_reducible rfl)
  (try simp only [List.getElem_toArray, List.getElem_cons_succ, List.getElem_cons_zero, Act.put, List.setIfInBounds_toArray, List.set_cons_zero, List.set_cons_succ])
  refine anyB_take (i := 9) (oi := _) (v := ?q145_4b1v10) rfl (by kernel_rfl) (by kernel_rfl) (by kernel_rfl) (by kernel_rfl) (fun _ _ _ h => h) (Or.inl ⟨by rfl, ?q145_4b1h10⟩) (by assumption) ?q145_4b1r10
  case q145_4b1h10 => (intro w hSw; (try dsimp only at hSw); go_simp; try with_reducible rfl)
  (try simp only [List.getElem_toArray, List.getElem_cons_succ, List.getElem_cons_zero, Act.put, List.setIfInBounds_toArray, List.set_cons_zero, List.set_cons_succ])
  refine anyB_take (i := 10) (oi := _) (v := ?q145_4b1v11) rfl (by kernel_rfl) (by kernel_rfl) (by kernel_rfl) (by kernel_rfl) (fun _ _ _ h => h) (Or.inl ⟨by rfl, ?q145_4b1h11⟩) (by assumption) ?q145_4b1r11
  case q145_4b1h11 => (intro w hSw; (try dsimp only at hSw); go_simp; try with_reducible rfl)
  (try simp only [List.getElem_toArray, List.getElem_cons_succ, List.getElem_cons_zero, Act.put, List.setIfInBounds_toArray, List.set_cons_zero, List.set_cons_succ])
  refine anyB_take (i := 11) (oi := _) (v := ?q145_4b1v12) rfl (by kernel_rfl) (by kernel_rfl) (by kernel_rfl) (by kernel_rfl) (fun _ _ _ h => h) (Or.inl ⟨by rfl, ?q145_4b1h12⟩) (by assumption) ?q145_4b1r12
  case q145_4b1h12 => (intro w hSw; (try dsimp only at hSw); go_simp; try with_reducible rfl)
  (try simp only [List.getElem_toArray, List.getElem_cons_succ, List.getElem_cons_zero, Act.put, List.setIfInBounds_toArray, List.set_cons_zero, List.set_cons_succ])
  refine anyB_take (i := 12) (oi := _) (v := ?q145_4b1v13) rfl (by kernel_rfl) (by kernel_rfl) (by kernel_rfl) (by kernel_rfl) (fun _ _ _ h => h) (Or.inl ⟨by rfl, ?q145_4b1h13⟩) (by assumption) ?q145_4b1r13
  case q145_4b1h13 => (intro w hSw; (try dsimp only at hSw); go_simp; try with_reducible rfl)
  (try simp only [List.getElem_toArray, List.getElem_cons_succ, List.getElem_cons_zero, Act.put, List.setIfInBounds_toArray, List.set_cons_zero, List.set_cons_succ])
  refine anyB_step (i := 13) (o := _) (by kernel_rfl) (by rfl) (by (simp only [List.getElem?_toArray, List.getElem?_cons_succ, List.getElem?_cons_zero] <;> rfl)) (fun K hK => ?_)
  go_simp
  refine hK.out _ _ ?q145_4b1S14 (fun hHeld1 => ?_)
  case q145_4b1S14 => ((first | go_keep | ((try dsimp only); exact ⟨by assumption, by assumption, by assumption⟩)))
  clear hK K hHeld0
  (try simp only [List.getElem_toArray, List.getElem_cons_succ, List.getElem_cons_zero, Act.put, List.setIfInBounds_toArray, List.set_cons_zero, List.set_cons_succ])
  refine anyB_take (i := 14) (oi := _) (v := ?q145_4b1v15) rfl (by kernel_rfl) (by kernel_rfl) (by kernel_rfl) (by kernel_rfl) (fun _ _ _ h => h) (Or.inl ⟨by rfl, ?q145_4b1h15⟩) (by assumption) ?q145_4b1r15
  case q145_4b1h15 => (intro w hSw; (try dsimp only at hSw); go_simp; try with_reducible rfl)
  (try simp only [List.getElem_toArray, List.getElem_cons_succ, List.getElem_cons_zero, Act.put, List.setIfInBounds_toArray, List.set_cons_zero, List.set_cons_succ])
  refine anyB_last (i := 15) (o := _) (by kernel_rfl) (by rfl) (by (simp only [List.getElem?_toArray, List.getElem?_cons_succ, List.getElem?_cons_zero] <;> rfl)) (fun K hK => ?_)
  go_simp
  refine hK.out _ _ ?_
  clear hK K
  (try simp only [List.getElem_toArray, List.getElem_cons_succ, List.getElem_cons_zero, Act.put, List.setIfInBounds_toArray, List.set_cons_zero, List.set_cons_succ])
  refine anyB_done (by kernel_rfl) ?_ _
  go_wp2
  go_end0
  have hsz1 := Ho1.out.size
  simp only [World.size_drew, World.size_alloc] at hsz1
  have hx1 : Ext w (w.alloc (.cells #[.int .u8 (kd.toNat : Int), .slice U key.length n, .slice X val.length k] 112)).drew := (Ext.alloc1 _ _).drew
  have hA : MmAt w1 (fun b => (FS b ∨ w.heap.size ≤ b) ∧ b < w1.heap.size) FT M L T v mN l sz last := ⟨HM2.out, Hs'.out.mono (fun b hl hb => ⟨hb.imp id (fun h => by simp at h; omega), hl⟩), (H0.out.ext hx1).tb.frame Ho1.out H0.out.sT H0.out.sv (fun b _ hb => H0.out.sF b hb), (fun h => h.1.elim H0.out.sM (fun h => by omega)), (fun h => h.1.elim H0.out.sT (fun h => by omega)), (fun b hb h => h.1.elim (H0.out.sv b hb) (fun h => by have := hltv.out b hb; omega)), (fun b hb h => h.1.elim (H0.out.sF b hb) (fun h => by have := H0.out.lF b hb; omega)), H0.out.tM, H0.out.vM, H0.out.fM, (fun b hb => hb.2), (fun b hb => Nat.lt_of_lt_of_le (H0.out.lF b hb) (by omega))⟩
  exact ⟨rfl, ((Ext.out hx1 Foot).trans (Ho1.out.mono (fun b _ hb => f1 b hb))).trans ((out_store w1 M _ _).mono (fun b _ e => e ▸ f4)), _, FT, L, T, v, hA.store _ _, (fun b hb => hb.1.imp (f1 b) id), (fun b hb => .inl (f2 b hb)), .inl f3, .inl f4, fun b hb => .inl (f5 b hb)⟩

/-- What is written by an op. -/
def putM (m : List (Ent × Nat)) (o : OpE) (q : Nat) (ht : Int) : List (Ent × Nat) := if o.kind.toNat = 3 then m else insN m ⟨⟨o.key, UInt64.ofNat q, o.kind⟩, o.val⟩ ht
def putL (l : List SpanE) (o : OpE) (q : Nat) : List SpanE := if o.kind.toNat = 3 then l ++ [⟨o.key, o.val, UInt64.ofNat q⟩] else l
def opW (o : OpE) : Int := o.key.length + o.val.length + 16
theorem ocheck_ok {o : OpE} (h : ocheck o = 0) : (o.kind.toNat = 1 ∨ o.kind.toNat = 2 ∨ o.kind.toNat = 3) ∧ 0 < o.key.length ∧ o.key.length ≤ 64 ∧ o.val.length ≤ 512 ∧ (o.kind.toNat = 3 → o.val.length ≤ 64 ∧ Op.bytesLess o.key o.val = true) ∧ (o.kind.toNat = 1 → o.val.length = 0) := by
  unfold ocheck ocheckI at h
  generalize Op.bytesLess o.key o.val = q at *
  split at h
  · cases h
  · split at h
    · cases h
    · split at h
      · cases h
      · refine ⟨by omega, by omega, by omega, by omega, fun h3 => ⟨by omega, ?_⟩, by omega⟩
        cases q <;> simp_all

theorem memo_put (h : Mm w Foot M m l sz last) {u x : Value} (o : OpE) (hG : ∀ b, G b → b < w.heap.size) (hu : Bs w G u o.key) (hx : Bs w G x o.val) (q : Nat) (hok : ocheck o = 0) (hq0 : 0 < q) (hq : q ≤ 72057594037927935) (hm : m.length < 90000) (hl : l.length ≤ 90000) (hs0 : 0 ≤ sz) (hs1 : sz ≤ 1000000000000) (ht : Int) :
    Calls Try.prog 145 #[.pointer (some ⟨M, 0, none⟩), .agg #[byteV o.kind, u, x], .int .u64 (q : Int), .int .i64 ht] w fun e w' => e = .returned (.tuple #[]) ∧ Out Foot w w' ∧
      Mm w' (fun b => Foot b ∨ w.heap.size ≤ b) M (putM m o q ht) (putL l o q) (sz + opW o) q := by
  obtain ⟨k1, k2, k3, k4, k5, k6⟩ := ocheck_ok hok
  have hq' : q < 18446744073709551616 := by omega
  by_cases h3 : o.kind.toNat = 3
  · obtain ⟨h5, h6⟩ := k5 h3
    have := memo_putR h o.key o.val hu hx q (scheck_of k2 k3 h5 h6 (by show 0 < (UInt64.ofNat q).toNat; rw [UInt64.toNat_ofNat_of_lt' hq']; exact hq0) (by show (UInt64.ofNat q).toNat ≤ _; rw [UInt64.toNat_ofNat_of_lt' hq']; exact hq)) (by omega) (by omega) hs0 hs1 (by omega) (by omega) ht
    unfold putM putL opW
    rw [if_pos h3, if_pos h3, show byteV o.kind = .int .u8 3 from by unfold byteV; rw [h3]; rfl]
    exact this
  · have := memo_putI h o.kind o.key o.val hG hu hx q (by omega) hm hs0 hs1 (by omega) (by omega) h3 ht
    unfold putM putL opW
    rw [if_neg h3, if_neg h3]
    exact this
end
end Go.Proofs.Yteaanagljmcidaa
namespace Go.Proofs.Yteaanagljmcidaa
open Go.RowKit

attribute [local go_sem ↓] Go.wp_at_zero Go.wp_at_succ
section
variable {w w' : World} {Foot G : Nat → Prop} {M L T : Nat} {v : Value} {m : List (Ent × Nat)} {l : List SpanE} {sz : Int} {last : Nat} {FS FT : Nat → Prop}

theorem memo_size (h : Mm w Foot M m l sz last) : Calls Try.prog 84 #[.pointer (some ⟨M, 0, none⟩)] w fun e w' => e = .returned (.int .i64 sz) ∧ w = w' := by
  obtain ⟨FS, FT, L, T, v, h0, -⟩ := h
  obtain ⟨m0, m1, m2, m3, mf⟩ := cells4 h0.blk
  clear h0
  go_enter Try.func84, Try.ntmps84
  go_wp2
  go_ret
  exact ⟨rfl, rfl⟩
theorem memo_last (h : Mm w Foot M m l sz last) : Calls Try.prog 76 #[.pointer (some ⟨M, 0, none⟩)] w fun e w' => e = .returned (.int .u64 (last : Int)) ∧ w = w' := by
  obtain ⟨FS, FT, L, T, v, h0, -⟩ := h
  obtain ⟨m0, m1, m2, m3, mf⟩ := cells4 h0.blk
  clear h0
  go_enter Try.func76, Try.ntmps76
  go_wp2
  go_ret
  exact ⟨rfl, rfl⟩
theorem memo_entries (h : Mm w Foot M m l sz last) : Calls Try.prog 89 #[.pointer (some ⟨M, 0, none⟩)] w (OwnedM entC 32 w (m.map (·.1))) := by
  obtain ⟨FS, FT, L, T, v, h0, -⟩ := h
  obtain ⟨m0, m1, m2, m3, mf⟩ := cells4 h0.blk
  have HC := Lib.hid (sk_allM h0.sk)
  clear h0
  go_enter Try.func89, Try.ntmps89
  go_wp2_with (go_at_call 33; refine HC.out.mono ?_; rintro r w1 ⟨u, rfl, hx1, hb1⟩)
  go_ret
  exact ⟨_, rfl, hx1, hb1⟩
theorem memo_spans (h : Mm w Foot M m l sz last) (hl : l.length ≤ 1000000) : Calls Try.prog 90 #[.pointer (some ⟨M, 0, none⟩)] w (OwnedM spanC 92 w l) := by
  obtain ⟨FS, FT, L, T, v, h0, -⟩ := h
  obtain ⟨m0, m1, m2, m3, mf⟩ := cells4 h0.blk
  have HC := Lib.hid (tomb_all h0.tb hl)
  clear h0
  go_enter Try.func90, Try.ntmps90
  go_wp2_with (go_at_call 123; refine HC.out.mono ?_; rintro r w1 ⟨u, rfl, hx1, hb1⟩)
  go_ret
  exact ⟨_, rfl, hx1, hb1⟩

theorem memo_sizeN (w : World) : Calls Try.prog 84 #[.pointer none] w fun e w' => e = .returned (.int .i64 0) ∧ w = w' := by
  go_enter Try.func84, Try.ntmps84
  go_wp2
  go_ret
  exact ⟨rfl, rfl⟩
theorem memo_lastN (w : World) : Calls Try.prog 76 #[.pointer none] w fun e w' => e = .returned (.int .u64 0) ∧ w = w' := by
  go_enter Try.func76, Try.ntmps76
  go_wp2
  go_ret
  exact ⟨rfl, rfl⟩
theorem memo_entriesN (w : World) : Calls Try.prog 89 #[.pointer none] w fun e w' => e = .returned (.slice none 0 0) ∧ w = w' := by
  go_enter Try.func89, Try.ntmps89
  go_wp2
  go_ret
  exact ⟨rfl, rfl⟩
theorem memo_spansN (w : World) : Calls Try.prog 90 #[.pointer none] w fun e w' => e = .returned (.slice none 0 0) ∧ w = w' := by
  go_enter Try.func90, Try.ntmps90
  go_wp2
  go_ret
  exact ⟨rfl, rfl⟩

/-- What Do answers. -/
def doR (last : Nat) (o : OpE) (q : Nat) (ht : Int) : Int :=
  if ocheck o ≠ 0 then ocheck o else if q = 0 ∨ 72057594037927935 < q then 13 else if ht < 1 ∨ 8 < ht then 1 else if q ≤ last then 10 else 0

set_option maxRecDepth 100000 in
set_option maxHeartbeats 4000000 in
theorem memo_doNo (h : Mm w Foot M m l sz last) {u x : Value} (o : OpE) (hu : Bs w G u o.key) (hx : Bs w G x o.val) (q : Nat) (ht : Int) (hr : doR last o q ht ≠ 0) :
    Calls Try.prog 86 #[.pointer (some ⟨M, 0, none⟩), .agg #[byteV o.kind, u, x], .int .u64 (q : Int), .int .i64 ht] w fun e w' => e = .returned (.int .i64 (doR last o q ht)) ∧ Ext w w' := by
  obtain ⟨FS, FT, L, T, v, h0, -⟩ := h
  obtain ⟨U, N, n, rfl⟩ := hu.form0
  obtain ⟨X, K, k, rfl⟩ := hx.form0
  have x1 := Ext.alloc1 w (.cells #[byteV o.kind, .slice U N n, .slice X K k] 112)
  obtain ⟨z0, z1, z2, -⟩ := cells3 (blk_new w (.cells #[byteV o.kind, .slice U N n, .slice X K k] 112))
  have HC := Lib.hid (batch_check1 (w.alloc (.cells #[byteV o.kind, .slice U N n, .slice X K k] 112)) o (hu.ext x1) (hx.ext x1))
  have HM := Lib.hid (x1.blk h0.blk (fun f => f))
  have X1 := Lib.hid x1
  clear h0 hu hx x1
  unfold doR at *
  generalize ocheck o = c at *
  by_cases hc : c = 0
  · subst hc
    by_cases h2 : q = 0 ∨ 72057594037927935 < q
    · have hr' := Lib.hid hr
      clear hr
      by_cases h3 : q = 0
      · subst h3
        clear h2
        go_enter Try.func86, Try.ntmps86
        go_wp2_with (go_at_call 143; refine HC.out.mono ?_; rintro r w1 ⟨rfl, hx1⟩)
        go_ret
        exact ⟨by simp, X1.out.ext hx1⟩
      · have h4 : 72057594037927935 < q := by omega
        have h4' := Lib.hid h4
        clear h2
        go_enter Try.func86, Try.ntmps86
        go_wp2_with (go_at_call 143; refine HC.out.mono ?_; rintro r w1 ⟨rfl, hx1⟩)
        go_ret
        exact ⟨by simp [h4'.out], X1.out.ext hx1⟩
    · by_cases h3 : ht < 1 ∨ 8 < ht
      · have HT : Hid (∀ w, Calls Try.prog 144 #[.int .i64 ht] w fun e w' => e = .returned (.bool false) ∧ w = w') := Lib.hid fun w => by have := memo_tall w ht; rwa [show decide (1 ≤ ht ∧ ht ≤ 8) = false from by simp; omega] at this
        have HR : Hid ((if (0 : Int) ≠ 0 then (0 : Int) else if q = 0 ∨ 72057594037927935 < q then 13 else if ht < 1 ∨ 8 < ht then 1 else if q ≤ last then 10 else 0) = 1) := Lib.hid (by rw [if_neg (by simp), if_neg h2, if_pos h3])
        clear hr
        rw [HR.out]
        clear HR h3
        have h5 : ¬ q = 0 := by omega
        have h6 : q ≤ 72057594037927935 := by omega
        have hq0 : ((q : Int) == 0) = false := by rw [beq_eq_false_iff_ne]; omega
        have hq1 : decide ((72057594037927935 : Int) < q) = false := by rw [decide_eq_false_iff_not]; omega
        clear h2
        go_enter Try.func86, Try.ntmps86
        go_wp2_with (first | (go_at_call 143; refine HC.out.mono ?_; rintro r w1 ⟨rfl, hx1⟩) | (go_at_call 144; refine (HT.out _).mono ?_; rintro r w2 ⟨rfl, rfl⟩))
        go_ret
        exact ⟨rfl, X1.out.ext hx1⟩
      · have HT : Hid (∀ w, Calls Try.prog 144 #[.int .i64 ht] w fun e w' => e = .returned (.bool true) ∧ w = w') := Lib.hid fun w => by have := memo_tall w ht; rwa [show decide (1 ≤ ht ∧ ht ≤ 8) = true from by simp; omega] at this
        have h7 : q ≤ last := by
          apply Classical.byContradiction; intro h7
          rw [if_neg (by simp), if_neg h2, if_neg h3, if_neg h7] at hr; exact hr rfl
        have HR : Hid ((if (0 : Int) ≠ 0 then (0 : Int) else if q = 0 ∨ 72057594037927935 < q then 13 else if ht < 1 ∨ 8 < ht then 1 else if q ≤ last then 10 else 0) = 10) := Lib.hid (by rw [if_neg (by simp), if_neg h2, if_neg h3, if_pos h7])
        clear hr
        rw [HR.out]
        clear HR h3
        have h5 : ¬ q = 0 := by omega
        have h6 : q ≤ 72057594037927935 := by omega
        have hq0 : ((q : Int) == 0) = false := by rw [beq_eq_false_iff_ne]; omega
        have hq1 : decide ((72057594037927935 : Int) < q) = false := by rw [decide_eq_false_iff_not]; omega
        clear h2
        go_enter Try.func86, Try.ntmps86
        go_wp2_with (first | (go_at_call 143; refine HC.out.mono ?_; rintro r w1 ⟨rfl, hx1⟩; obtain ⟨m0, m1, m2, m3, mf⟩ := cells4 (hx1.blk HM.out (fun f => f))) | (go_at_call 144; refine (HT.out _).mono ?_; rintro r w2 ⟨rfl, rfl⟩))
        go_ret
        exact ⟨rfl, X1.out.ext hx1⟩
  · have hcb : (c != 0) = true := by simpa using hc
    have HR : Hid ((if c ≠ 0 then c else if q = 0 ∨ 72057594037927935 < q then 13 else if ht < 1 ∨ 8 < ht then 1 else if q ≤ last then 10 else 0) = c) := Lib.hid (if_pos hc)
    rw [HR.out]
    clear hr HR hc
    go_enter Try.func86, Try.ntmps86
    go_wp2_with (go_at_call 143; refine HC.out.mono ?_; rintro r w1 ⟨rfl, hx1⟩)
    go_ret
    exact ⟨rfl, X1.out.ext hx1⟩

set_option maxRecDepth 100000 in
set_option maxHeartbeats 4000000 in
theorem memo_do (h : Mm w Foot M m l sz last) {u x : Value} (o : OpE) (hG : ∀ b, G b → b < w.heap.size) (hu : Bs w G u o.key) (hx : Bs w G x o.val) (q : Nat) (hm : m.length < 90000) (hl : l.length ≤ 90000) (hs0 : 0 ≤ sz) (hs1 : sz ≤ 1000000000000) (ht : Int) (hr : doR last o q ht = 0) :
    Calls Try.prog 86 #[.pointer (some ⟨M, 0, none⟩), .agg #[byteV o.kind, u, x], .int .u64 (q : Int), .int .i64 ht] w fun e w' => e = .returned (.int .i64 0) ∧ Out Foot w w' ∧
      Mm w' (fun b => Foot b ∨ w.heap.size ≤ b) M (putM m o q ht) (putL l o q) (sz + opW o) q := by
  have hlast : ∃ L T, w.heap[M]? = some (.cells #[.pointer (some ⟨L, 0, none⟩), .pointer (some ⟨T, 0, none⟩), .int .i64 sz, .int .u64 (last : Int)] 183) := by
    obtain ⟨FS, FT, L, T, v, h0, -⟩ := h; exact ⟨L, T, h0.blk⟩
  obtain ⟨L, T, hMb⟩ := hlast
  unfold doR at hr
  have h1 : ocheck o = 0 := by
    apply Classical.byContradiction; intro hc; rw [if_pos hc] at hr; exact hc hr
  rw [if_neg (by simpa using h1)] at hr
  have h2 : ¬ (q = 0 ∨ 72057594037927935 < q) := fun hc => by rw [if_pos hc] at hr; cases hr
  rw [if_neg h2] at hr
  have h3 : ¬ (ht < 1 ∨ 8 < ht) := fun hc => by rw [if_pos hc] at hr; cases hr
  rw [if_neg h3] at hr
  have h4 : ¬ q ≤ last := fun hc => by rw [if_pos hc] at hr; cases hr
  clear hr
  have HT : Hid (∀ w, Calls Try.prog 144 #[.int .i64 ht] w fun e w' => e = .returned (.bool true) ∧ w = w') := Lib.hid fun w => by have := memo_tall w ht; rwa [show decide (1 ≤ ht ∧ ht ≤ 8) = true from by simp; omega] at this
  obtain ⟨U, N, n, rfl⟩ := hu.form0
  obtain ⟨X, K, k, rfl⟩ := hx.form0
  have x1 := Ext.alloc1 w (.cells #[byteV o.kind, .slice U N n, .slice X K k] 112)
  have hz := blk_new w (.cells #[byteV o.kind, .slice U N n, .slice X K k] 112)
  obtain ⟨z0, z1, z2, -⟩ := cells3 hz
  have hC := batch_check1 (w.alloc (.cells #[byteV o.kind, .slice U N n, .slice X K k] 112)) o (hu.ext x1) (hx.ext x1)
  rw [h1] at hC
  have HC := Lib.hid hC
  have HM := Lib.hid (x1.blk hMb (fun f => f))
  have HZ := Lib.hid hz
  have X1 := Lib.hid x1
  have H0 := Lib.hid h
  have Hu := Lib.hid hu
  have Hx := Lib.hid hx
  have Hok := Lib.hid h1
  have HGl := Lib.hid hG
  have HM0 := Lib.hid hm
  have HL0 := Lib.hid hl
  have h5 : ¬ q = 0 := by omega
  have h6 : q ≤ 72057594037927935 := by omega
  have hq0 : ((q : Int) == 0) = false := by rw [beq_eq_false_iff_ne]; omega
  have hq1 : decide ((72057594037927935 : Int) < q) = false := by rw [decide_eq_false_iff_not]; omega
  have h7 : ¬ (q : Int) ≤ last := by omega
  clear h hu hx x1 hz hC h1 h2 h3 hMb hG hm hl
  go_enter Try.func86, Try.ntmps86
  go_wp2_with (first
    | (go_at_call 143; refine HC.out.mono ?_; rintro r w1 ⟨rfl, hx1⟩; obtain ⟨m0, m1, m2, m3, mf⟩ := cells4 (hx1.blk HM.out (fun f => f)); obtain ⟨y0, y1, y2, -⟩ := cells3 (hx1.blk HZ.out (fun f => f)); have HX1 := Lib.hid (X1.out.ext hx1); clear hx1)
    | (go_at_call 144; refine (HT.out _).mono ?_; rintro r w2 ⟨rfl, rfl⟩)
    | (go_at_call 145; refine (memo_put (H0.out.ext HX1.out) o (fun b hb => Nat.lt_of_lt_of_le (HGl.out b hb) HX1.out.size) (Hu.out.ext HX1.out) (Hx.out.ext HX1.out) q Hok.out (by omega) (by omega) HM0.out HL0.out hs0 hs1 ht).mono ?_; rintro r w3 ⟨rfl, ho3, hm3⟩; have Ho3 := Lib.hid ho3; have Hm3 := Lib.hid hm3; clear ho3 hm3))
  go_ret
  exact ⟨rfl, (Ext.out HX1.out _).trans Ho3.out, Hm3.out.mono fun b _ hb => hb.imp id fun h => Nat.le_trans HX1.out.size h⟩

theorem memo_doN (w : World) {u x : Value} (o : OpE) (hu : Bs w G u o.key) (hx : Bs w G x o.val) (q : Nat) (ht : Int) :
    Calls Try.prog 86 #[.pointer none, .agg #[byteV o.kind, u, x], .int .u64 (q : Int), .int .i64 ht] w fun e w' => e = .returned (.int .i64 6) ∧ Ext w w' := by
  obtain ⟨U, N, n, rfl⟩ := hu.form0
  obtain ⟨X, K, k, rfl⟩ := hx.form0
  clear hu hx
  go_enter Try.func86, Try.ntmps86
  go_wp2
  go_ret
  exact ⟨rfl, Ext.alloc1 _ _⟩
end
end Go.Proofs.Yteaanagljmcidaa
