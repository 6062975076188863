/- ref09: Few, Check, Right; ref04: SamePairs. · glass, in plain Lean: what is seen, key by key. · glass: needed. · glass, in plain Lean: what is kept, key by key. · glass: tomb.New of spans; slices.Clone of numbers. -/
import Derived.Test.YteaanagljmcidaaPkF
import Derived.Test.YteaanagljmcidaaPkA
import Derived.Test.YteaanagljmcidaaPkC
namespace Go.Proofs.Yteaanagljmcidaa
open Go.RowKit

attribute [local go_sem ↓] Go.wp_at_zero Go.wp_at_succ

/-- A span of an argument. -/
def spanCA : Codec SpanE where
  size := 3
  rep w F cs s := ∃ u v, cs = [u, v, u64V s.seq] ∧ BsA w F u s.frm ∧ BsA w F v s.til
  len := fun ⟨_, _, h, _⟩ => by rw [h]; rfl
  one := fun ⟨u, v, h, hb, hc⟩ x hx => by
    rw [h] at hx; obtain ⟨A, cap, rfl, _⟩ := hb.form; obtain ⟨A', cap', rfl, _⟩ := hc.form
    simp only [List.mem_cons, List.not_mem_nil, or_false] at hx
    rcases hx with rfl | rfl | rfl <;> rfl
  frame := fun ⟨u, v, h, hb, hc⟩ hF => ⟨u, v, h, hb.frame hF, hc.frame hF⟩
  mono := fun ⟨u, v, h, hb, hc⟩ hF => ⟨u, v, h, hb.mono hF (.inl (by decide)), hc.mono hF (.inl (by decide))⟩
  bound := maxLen
  bpos := by decide
theorem Sl.spanA {w : World} {F : Nat → Prop} {A : Option Addr} {n cap : Nat} {l : List SpanE} (h : Sl spanCA w F (.slice A n cap) l) (i : Nat) (hi : i < l.length) :
    ∃ b off u v, A = some ⟨b, off, none⟩ ∧ F b ∧ w.cell? ⟨b, off + i * 3, none⟩ = some u ∧ w.cell? ⟨b, off + i * 3 + 1, none⟩ = some v ∧ w.cell? ⟨b, off + i * 3 + 2, none⟩ = some (u64V l[i].seq) ∧ BsA w F u l[i].frm ∧ BsA w F v l[i].til := by
  obtain ⟨b, off, cs, hA, hF, hat, u, v, rfl, h1, h2⟩ := h.get i hi
  exact ⟨b, off, u, v, hA, hF, hat 0 _ rfl, hat 1 _ rfl, hat 2 _ rfl, h1, h2⟩
theorem span_rep {w : World} {F G H : Nat → Prop} {u v : Value} {e : SpanE} (hu : Bs w F u e.frm) (hv : Bs w G v e.til) (hF : ∀ b, F b → b < w.heap.size → H b) (hG : ∀ b, G b → b < w.heap.size → H b) :
    spanC.rep w H [u, v, u64V e.seq] e := ⟨u, v, rfl, hu.mono hF (.inl (by decide)), hv.mono hG (.inl (by decide))⟩

def cutS (o : SpanE) : SpanE := ⟨o.frm.take 80, o.til.take 80, o.seq⟩
theorem room_minS {l : List SpanE} {k n : Nat} (hn : n ≤ 1000) : (((l.take (min k n)).map cutS).length + 1) * 56 ≤ 140737488355328 := by
  have : ((l.take (min k n)).map cutS).length ≤ n := by rw [List.length_map, List.length_take]; omega
  omega

set_option maxRecDepth 100000 in
set_option maxHeartbeats 1000000 in
theorem r9_few (w : World) {F : Nat → Prop} {x : Value} (l : List SpanE) (hx : Sl spanCA w F x l) (n : Nat) (hn : n ≤ 1000) :
    Calls Try.prog 63 #[x, .int .i64 (n : Int)] w (OwnedM spanC 92 w ((l.take n).map cutS)) := by
  obtain ⟨A, cap, rfl, h1, h2, h3, h4⟩ := hx.form
  have h5 : l.length ≤ 9223372036854775807 := h3
  have Hx := Lib.hid hx
  clear h1 h2 h3 h4 hx
  go_enter Try.func63, Try.ntmps63
  go_wp2
  go_loopw [5, 10] (fun o i wr => ∃ k : Nat, k ≤ l.length ∧ i = .int .i64 k ∧ Own spanC 92 wr w.heap.size (fun b => w.heap.size ≤ b) o ((l.take (min k n)).map cutS) ∧ Ext w wr) (fun _ i _ => l.length - (intOf i).toNat)
  case atStart => exact ⟨0, Nat.zero_le _, rfl, by rw [Nat.zero_min]; exact Own.nil _ _ _ _ _, Out.refl _ w⟩
  case round =>
    obtain ⟨k, hk, rfl, hown, hext⟩ := hrel
    by_cases hlt : k < l.length
    · obtain ⟨b1, o1, u1, v1, rfl, -, c0, c1, c2, hu, hv⟩ := (Hx.out.ext hext).spanA k hlt
      obtain ⟨U, N1, n1, rfl⟩ := hu.form0
      obtain ⟨V, N2, n2, rfl⟩ := hv.form0
      have hsz := hext.size
      have hown' := hown.ext (Ext.alloc1 wr (.cells #[.slice U N1 n1, .slice V N2 n2, u64V l[k].seq] 92))
      by_cases hkn : k < n
      · have hu' := (hu.alloc (.cells #[.slice U N1 n1, .slice V N2 n2, u64V l[k].seq] 92)).drew
        have hv' := (hv.alloc (.cells #[.slice U N1 n1, .slice V N2 n2, u64V l[k].seq] 92)).drew
        obtain ⟨z0, z1, z2, -⟩ := cells3 (blk_new wr (.cells #[.slice U N1 n1, .slice V N2 n2, u64V l[k].seq] 92))
        have Own' := Lib.hid hown'
        have Lt := Lib.hid hown'.lt
        have Sz := Lib.hid (le_alloc hsz (.cells #[.slice U N1 n1, .slice V N2 n2, u64V l[k].seq] 92))
        have Ne := Lib.hid hown.ne_new
        have Hext := Lib.hid hext
        clear hext hown hown'
        go_wp2
        go_region_held3 (fun w' => w'.cell? ⟨wr.heap.size, 0, none⟩ = some (.slice U N1 n1) ∧ w'.cell? ⟨wr.heap.size, 1, none⟩ = some (.slice V N2 n2) ∧ w'.cell? ⟨wr.heap.size, 2, none⟩ = some (u64V l[k].seq)) (first | go_keep | (refine ⟨?_, ?_, ?_⟩ <;> exact hx1.cell (by assumption) (fun f => f)) | (refine ⟨?_, ?_, ?_⟩ <;> exact hx2.cell (hx1.cell (by assumption) (fun f => f)) (fun f => f)) | (refine ⟨?_, ?_, ?_⟩ <;> exact g2.cell (cell_alloc (hx2.cell (hx1.cell (by assumption) (fun f => f)) (fun f => f)) _) Ne.out))
          (first | (go_at_call 77; refine (r1_cutI _ (hv'.ext hx1) 80 80 rfl (by decide)).mono ?_; rintro x w2 ⟨x2, rfl, hx2, hb2⟩; obtain ⟨A2, k2, m2, rfl⟩ := hb2.form0) | (go_at_call 77; refine (r1_cutI _ hu' 80 80 rfl (by decide)).mono ?_; rintro x w1 ⟨x1, rfl, hx1, hb1⟩; obtain ⟨A1, k1, m1, rfl⟩ := hb1.form0) | (refine step_append_one (by rfl) (.tmp 18) (.tmp 28) 82 (by rfl) fits92 ((((Own'.out.ext (Out.refl _ _).drew).ext hx1).ext hx2).ext (Ext.alloc1 _ _)) (by rfl) (le_alloc (Nat.le_trans Sz.out (Nat.le_trans hx1.size hx2.size)) _) (blk_new _ _) (by rfl) (cutS l[k]) (span_rep (e := cutS l[k]) ((hb1.ext hx2).alloc _) (hb2.alloc _) (fun b hb _ => fresh_ok Sz.out Lt.out hb) (fun b hb _ => fresh_ok Sz.out Lt.out (Nat.le_trans hx1.size hb))) (room_minS hn) (by decide) ?_; intro v' w' g1 g2 g3))
        go_wp2
        go_roundw
        case rel => exact ⟨k + 1, by omega, by go_num, by rw [take_min_succ hlt hkn, List.map_append]; exact g1, Out.own ((((Hext.out.alloc _).drew.ext hx1).ext hx2).alloc _) g2 (fun k h => (Lt.out k h).1) (Nat.le_refl _)⟩
        case measure => simp [intOf]; omega
      · have Hown := Lib.hid hown'
        have Hext := Lib.hid hext
        clear hext hown hown'
        go_wp2
        go_roundw
        case rel => exact ⟨k + 1, by omega, by go_num, by rw [show min (k + 1) n = min k n from by omega]; exact Hown.out, Hext.out.alloc _⟩
        case measure => simp [intOf]; omega
    · go_wp2
      go_ret
      have hkl : l.take (min k n) = l.take n := by
        rcases Nat.le_total k n with h | h
        · rw [Nat.min_eq_left h, List.take_of_length_le (by omega), List.take_of_length_le (by omega)]
        · rw [Nat.min_eq_right h]
      rw [hkl] at hown
      exact ⟨_, rfl, hext, hown⟩

set_option maxRecDepth 100000 in
set_option maxHeartbeats 4000000 in
theorem r4_samePairs (w : World) {F G : Nat → Prop} {x y : Value} (l : List PairE) (hx : Sl pairC w F x l) (hy : Sl pairC w G y l) :
    Calls Try.prog 68 #[x, y] w fun e w' => e = .returned (.bool true) ∧ Ext w w' := by
  obtain ⟨A, cap, rfl, h1, h2, h3, h4⟩ := hx.form
  obtain ⟨B, cap', rfl, g1, g2, g3, g4⟩ := hy.form
  have h3 : l.length ≤ 140737488355328 := h3
  have Hx := Lib.hid hx
  have Hy := Lib.hid hy
  clear h1 h2 h4 g1 g2 g3 g4 hx hy
  obtain ⟨mk1, -⟩ : ∃ x : Nat, x = 0 := ⟨0, rfl⟩
  go_enter Try.func68, Try.ntmps68
  go_wp2
  go_loopw [13] (fun i wr => ∃ k : Nat, k ≤ l.length ∧ i = .int .i64 k ∧ Ext w wr) (fun i _ => l.length - (intOf i).toNat)
  case atStart => exact ⟨0, Nat.zero_le _, rfl, Out.refl _ w⟩
  case round =>
    obtain ⟨k, hk, rfl, hext⟩ := hrel
    by_cases hlt : k < l.length
    · obtain ⟨b1, o1, u1, v1, rfl, -, c0, c1, hu, hv⟩ := (Hx.out.ext hext).pair k hlt
      obtain ⟨b2, o2, u2, v2, rfl, -, d0, d1, hu', hv'⟩ := (Hy.out.ext hext).pair k hlt
      obtain ⟨U1, N1, n1, rfl⟩ := hu.form0
      obtain ⟨V1, N2, n2, rfl⟩ := hv.form0
      obtain ⟨U2, N3, n3, rfl⟩ := hu'.form0
      obtain ⟨V2, N4, n4, rfl⟩ := hv'.form0
      have HK := Lib.hid (r1_same _ hu.drew hu'.drew)
      have HV := Lib.hid (r1_same _ hv.drew hv'.drew)
      rw [beq_self_list] at HK HV
      have Hext := Lib.hid hext
      clear hext hu hv hu' hv'
      go_wp2
      go_region_held3 (fun w' => (w'.cell? ⟨b1, o1 + k * 2, none⟩ = some (.slice U1 N1 n1) ∧ w'.cell? ⟨b1, o1 + k * 2 + 1, none⟩ = some (.slice V1 N2 n2)) ∧ (w'.cell? ⟨b2, o2 + k * 2, none⟩ = some (.slice U2 N3 n3) ∧ w'.cell? ⟨b2, o2 + k * 2 + 1, none⟩ = some (.slice V2 N4 n4))) (first | go_keep)
        (first
          | (have hh := mk1; clear hh; go_at_call 74; refine HK.out.mono ?_; rintro x w1 ⟨rfl, rfl⟩; clear mk1)
          | (go_at_call 74; refine HV.out.mono ?_; rintro x w1 ⟨rfl, rfl⟩))
      go_wp2
      go_roundw
      case rel => exact ⟨k + 1, by omega, by go_num, Hext.out.drew⟩
      case measure => simp [intOf]; omega
    · go_wp2
      go_ret
      exact ⟨rfl, hext⟩

set_option maxRecDepth 100000 in
set_option maxHeartbeats 4000000 in
theorem r9_checkI (w : World) (U V : Option Addr) (a n b m k : Nat) (q : Bool)
    (HL : Calls Try.prog 82 #[.slice U a n, .slice V b m] (w.alloc (.cells #[.slice U a n, .slice V b m, .int .u64 k] 92)) fun e w' => e = .returned (.bool q) ∧ (w.alloc (.cells #[.slice U a n, .slice V b m, .int .u64 k] 92)) = w') :
    Calls Try.prog 116 #[.agg #[.slice U a n, .slice V b m, .int .u64 k]] w fun e w' => e = .returned (.int .i64 (if a = 0 ∨ 64 < a ∨ b = 0 ∨ 64 < b ∨ q = false ∨ k = 0 ∨ 72057594037927935 < k then 4 else 0)) ∧ Ext w w' := by
  obtain ⟨z0, z1, z2, -⟩ := cells3 (blk_new w (.cells #[.slice U a n, .slice V b m, .int .u64 k] 92))
  have X1 := Lib.hid (Ext.alloc1 w (.cells #[.slice U a n, .slice V b m, .int .u64 k] 92))
  have H := Lib.hid HL
  clear HL
  cases q
  all_goals
    go_enter Try.func116, Try.ntmps116
    go_wp2_with (go_at_call 82; refine H.out.mono ?_; rintro r w1 ⟨rfl, rfl⟩)
  all_goals
    go_ret
    refine ⟨ret_of ?_, (by first | exact X1.out | exact Ext.alloc1 _ _ | exact Out.refl _ _)⟩
    (try simp only at *) <;> (first | omega | (split <;> first | rfl | omega) | (simp <;> omega))
theorem bytesLess_nil (a : List UInt8) : Op.bytesLess a [] = false := by cases a <;> rfl
theorem r9_check (w : World) {F G : Nat → Prop} {u v : Value} (s : SpanE) (hu : Bs w F u s.frm) (hv : Bs w G v s.til) : Calls Try.prog 116 #[.agg #[u, v, u64V s.seq]] w fun e w' => e = .returned (.int .i64 (scheck s)) ∧ Ext w w' := by
  obtain ⟨U, n, rfl, -⟩ := hu.form
  obtain ⟨V, m, rfl, -⟩ := hv.form
  refine (r9_checkI w U V _ n _ m s.seq.toNat _ (r1_less _ (hu.alloc _) (hv.alloc _))).mono ?_
  rintro e w' ⟨rfl, hx⟩
  refine ⟨?_, hx⟩
  congr 2
  unfold scheck
  have h0 : s.til.length = 0 → Op.bytesLess s.frm s.til = false := fun h => by rw [List.eq_nil_of_length_eq_zero h]; exact bytesLess_nil _
  have e : (s.frm.length = 0 ∨ 64 < s.frm.length ∨ s.til.length = 0 ∨ 64 < s.til.length ∨ Op.bytesLess s.frm s.til = false ∨ s.seq.toNat = 0 ∨ 72057594037927935 < s.seq.toNat) ↔ (s.frm.length = 0 ∨ 64 < s.frm.length ∨ 64 < s.til.length ∨ Op.bytesLess s.frm s.til = false ∨ s.seq.toNat = 0 ∨ 72057594037927935 < s.seq.toNat) := by
    constructor
    · rintro (h | h | h | h | h | h | h)
      · exact .inl h
      · exact .inr (.inl h)
      · exact .inr (.inr (.inr (.inl (h0 h))))
      · exact .inr (.inr (.inl h))
      · exact .inr (.inr (.inr (.inl h)))
      · exact .inr (.inr (.inr (.inr (.inl h))))
      · exact .inr (.inr (.inr (.inr (.inr h))))
    · rintro (h | h | h | h | h | h)
      · exact .inl h
      · exact .inr (.inl h)
      · exact .inr (.inr (.inr (.inl h)))
      · exact .inr (.inr (.inr (.inr (.inl h))))
      · exact .inr (.inr (.inr (.inr (.inr (.inl h)))))
      · exact .inr (.inr (.inr (.inr (.inr (.inr h)))))
  simp only [e]

def okSp (s : SpanE) : Bool := decide (scheck s = 0)
/-- The spans that are right. -/
def rightE (l : List SpanE) : List SpanE := l.filter okSp
theorem rightE_ok {l : List SpanE} : ∀ s ∈ rightE l, scheck s = 0 := fun s hs => by simpa [okSp] using (List.mem_filter.1 hs).2
theorem rightE_len (l : List SpanE) : (rightE l).length ≤ l.length := List.length_filter_le _ _

set_option maxRecDepth 100000 in
set_option maxHeartbeats 4000000 in
theorem r9_right (w : World) {F : Nat → Prop} {x : Value} (l : List SpanE) (hx : Sl spanC w F x l) (hF : ∀ b, F b → b < w.heap.size) (hl : l.length ≤ 1000) :
    Calls Try.prog 62 #[x] w fun e w' => ∃ v, e = .returned v ∧ Ext w w' ∧ Sl spanC w' (fun b => F b ∨ w.heap.size ≤ b) v (rightE l) := by
  obtain ⟨A, cap, rfl, -⟩ := hx.form
  have Hx := Lib.hid hx
  clear hx
  go_enter Try.func62, Try.ntmps62
  go_wp2
  go_loopw [3, 8] (fun s3 s8 wr => ∃ i : Nat, i ≤ l.length ∧ s8 = .int .i64 i ∧ Own spanC 92 wr w.heap.size F s3 (rightE (l.take i)) ∧ Ext w wr) (fun _ s8 _ => l.length - (intOf s8).toNat)
  case atStart => exact ⟨0, Nat.zero_le _, rfl, Own.nil _ _ _ _ _, Out.refl _ _⟩
  case round =>
    obtain ⟨wo, rfl⟩ : ∃ x : World, x = wr := ⟨_, rfl⟩
    obtain ⟨i, hi, rfl, hown, hxo⟩ := hrel
    obtain ⟨S3, n3, c3, rfl⟩ := hown.form0
    have HX := Lib.hid hxo
    have Hown := Lib.hid hown
    have Hlt := Lib.hid hown.lt
    have hsz := hxo.size
    clear hxo hown
    by_cases hlt : i < l.length
    · obtain ⟨b1, o1, u1, v1, rfl, -, c0, c1, c2, hu, hv⟩ := (Hx.out.ext HX.out).span i hlt
      obtain ⟨U1, N1, n1, rfl⟩ := hu.form0
      obtain ⟨V1, M1, m1, rfl⟩ := hv.form0
      have hsn : rightE (l.take (i + 1)) = rightE (l.take i) ++ if scheck l[i] = 0 then [l[i]] else [] := by
        unfold rightE
        rw [List.take_succ_eq_append_getElem hlt, List.filter_append]
        congr 1
        by_cases h : scheck l[i] = 0 <;> simp [okSp, h]
      have hrl := rightE_len (l.take i)
      rw [List.length_take] at hrl
      have Hsn := Lib.hid hsn
      have x1 := Ext.alloc1 wo (.cells #[.slice U1 N1 n1, .slice V1 M1 m1, u64V l[i].seq] 92)
      obtain ⟨z0, z1, z2, -⟩ := cells3 (blk_new wo (.cells #[.slice U1 N1 n1, .slice V1 M1 m1, u64V l[i].seq] 92))
      have HZ := Lib.hid (blk_new wo (.cells #[.slice U1 N1 n1, .slice V1 M1 m1, u64V l[i].seq] 92))
      have HC := Lib.hid (r9_check (wo.alloc (.cells #[.slice U1 N1 n1, .slice V1 M1 m1, u64V l[i].seq] 92)) l[i] (hu.ext x1) (hv.ext x1))
      have Hu := Lib.hid hu
      have Hv := Lib.hid hv
      have X1 := Lib.hid x1
      clear hu hv x1 hsn
      generalize l[i] = s at *
      obtain ⟨c, hc⟩ : ∃ c, scheck s = c := ⟨_, rfl⟩
      rw [hc] at HC Hsn
      generalize rightE (l.take i) = R at *
      clear hc
      by_cases h0 : c = 0
      · subst h0
        have Hs2 : Hid (rightE (l.take (i + 1)) = R ++ [s]) := Lib.hid (by rw [Hsn.out, if_pos rfl])
        clear Hsn
        go_wp2_with (first
          | (go_at_call 116; refine HC.out.mono ?_; rintro r w2 ⟨rfl, hx2⟩; have HX2 := Lib.hid hx2; obtain ⟨y0, y1, y2, -⟩ := cells3 (hx2.blk HZ.out (fun f => f)); have hs2 := hx2.size; simp only [World.size_alloc] at hs2; clear hx2)
          | (at_builtin; refine wpList_append_one rfl (.tmp 15) (.tmp 17) 82 rfl fits92 ((Hown.out.ext (X1.out.ext HX2.out)).ext (Ext.alloc1 _ _)) rfl (by (try simp only [World.size_alloc]); omega) (blk_new _ _) rfl s ⟨_, _, rfl, ((Hu.out.ext (X1.out.ext HX2.out)).alloc _).mono (fun b hb _ => ⟨hb, fun e => by have := (Hlt.out _ e).1; have := hF b hb; omega⟩) (.inl (by decide)), ((Hv.out.ext (X1.out.ext HX2.out)).alloc _).mono (fun b hb _ => ⟨hb, fun e => by have := (Hlt.out _ e).1; have := hF b hb; omega⟩) (.inl (by decide))⟩ (by omega) (by decide) ?_; intro v4 w4 g1 g2 g3; obtain ⟨S4, n4, c4, rfl⟩ := g1.form0; have HG4 := Lib.hid g1; have HP4 := Lib.hid g2; clear g1 g2 g3))
        go_roundw
        case rel => exact ⟨i + 1, by omega, by go_num, by rw [Hs2.out]; exact HG4.out, ((HX.out.ext (X1.out.ext HX2.out)).alloc _).then HP4.out (fun b hb e => by have := (Hlt.out b e).1; omega)⟩
        case measure => simp [intOf] <;> omega
      · have h0b : (c == 0) = false := by simpa using h0
        have Hs2 : Hid (rightE (l.take (i + 1)) = R) := Lib.hid (by rw [Hsn.out, if_neg h0, List.append_nil])
        clear Hsn h0
        go_wp2_with (go_at_call 116; refine HC.out.mono ?_; rintro r w2 ⟨rfl, hx2⟩)
        go_roundw
        case rel => exact ⟨i + 1, by omega, by go_num, by rw [Hs2.out]; exact Hown.out.ext (X1.out.ext hx2), HX.out.ext (X1.out.ext hx2)⟩
        case measure => simp [intOf] <;> omega
    · obtain rfl : i = l.length := by omega
      have hrl := rightE_len l
      rw [List.take_length] at Hown
      go_wp2
      go_ret
      exact ⟨_, rfl, HX.out, Hown.out.sl (by decide) (by show _ ≤ 140737488355328; omega) (fun b hb _ => .inl hb) (fun b hb _ => .inr hb)⟩
end Go.Proofs.Yteaanagljmcidaa
namespace Go.Proofs.Yteaanagljmcidaa

/-- What is seen of one key's entries. -/
def seenG (L : List SpanE) (q : Nat) (g : List Ent) : List PairE := match g.find? (fitsQ q) with
  | none => []
  | some e => if isPut e && decide (coverE L e.key.user q ≤ e.key.seq.toNat) then [pairOf e] else []
theorem filter_is {g : List Ent} (hn : g.Nodup) {e : Ent} (he : e ∈ g) (c : Ent → Bool) : g.filter (fun x => decide (x = e) && c x) = if c e then [e] else [] := by
  induction g with
  | nil => cases he
  | cons y g ih =>
    obtain ⟨h1, h2⟩ := List.nodup_cons.1 hn
    by_cases hy : y = e
    · subst hy
      have h3 : g.filter (fun x => decide (x = y) && c x) = [] := List.filter_eq_nil_iff.2 fun x hx => by
        have : x ≠ y := fun h => h1 (h ▸ hx)
        simp [this]
      rw [List.filter_cons, h3]
      cases hc : c y <;> simp
    · have he' : e ∈ g := by
        rcases List.mem_cons.1 he with h | h
        · exact absurd h.symm hy
        · exact h
      rw [List.filter_cons, if_neg (by simp [hy])]
      exact ih h2 he'
theorem Groups.mem_same {l0 : List Ent} {gs : List (List Ent)} (h : Groups l0 gs []) {g g' : List Ent} (hg : g ∈ gs) (hg' : g' ∈ gs) {a b : Ent} (ha : a ∈ g) (hb : b ∈ g') (hu : a.key.user = b.key.user) : b ∈ g := by
  obtain ⟨i, hi, rfl⟩ := List.getElem_of_mem hg
  obtain ⟨j, hj, rfl⟩ := List.getElem_of_mem hg'
  rcases Nat.lt_trichotomy i j with h1 | h1 | h1
  · exact absurd hu (List.pairwise_iff_getElem.1 h.apart i j hi hj h1 a ha b hb)
  · subst h1; exact hb
  · exact absurd hu.symm (List.pairwise_iff_getElem.1 h.apart j i hj hi h1 b hb a ha)
theorem Groups.flat0 {l0 : List Ent} {gs : List (List Ent)} (h : Groups l0 gs []) : gs.flatten = l0 := by have := h.flat; rwa [List.append_nil] at this
theorem Groups.subl {l0 : List Ent} {gs : List (List Ent)} (h : Groups l0 gs []) {g : List Ent} (hg : g ∈ gs) : g.Sublist l0 := by
  rw [← h.flat0]
  exact List.sublist_flatten_of_mem hg
/-- Of one key's entries the first that fits is the first of all. -/
theorem Groups.find {l0 : List Ent} {gs : List (List Ent)} (h : Groups l0 gs []) (hs : SortedE l0) {g : List Ent} (hg : g ∈ gs) {e : Ent} (he : e ∈ g) (q : Nat) : l0.find? (fitsK e.key.user q) = some e ↔ g.find? (fitsQ q) = some e := by
  have hgs := hs.sub (h.subl hg)
  rw [find_first hs, find_first hgs]
  have hfk : ∀ y, fitsK e.key.user q y = true ↔ y.key.user = e.key.user ∧ fitsQ q y = true := fun y => by unfold fitsK fitsQ; simp
  constructor
  · rintro ⟨-, h2, h3⟩
    refine ⟨he, ((hfk e).1 h2).2, fun y hy hq => h3 y ((h.subl hg).subset hy) ((hfk y).2 ⟨(h.same g hg).2 y hy e he, hq⟩)⟩
  · rintro ⟨-, h2, h3⟩
    refine ⟨(h.subl hg).subset he, (hfk e).2 ⟨rfl, h2⟩, fun y hy hq => ?_⟩
    obtain ⟨hu, hq⟩ := (hfk y).1 hq
    rw [← h.flat0] at hy
    obtain ⟨g', hg', hy⟩ := List.mem_flatten.1 hy
    exact h3 y (h.mem_same hg hg' he hy hu.symm) hq
theorem seen_group {l0 : List Ent} {gs : List (List Ent)} (h : Groups l0 gs []) (hs : SortedE l0) {g : List Ent} (hg : g ∈ gs) (L : List SpanE) (q : Nat) : (g.filter fun e => seesE l0 L q e && isPut e).map pairOf = seenG L q g := by
  have hgs := hs.sub (h.subl hg)
  unfold seenG
  cases hf : g.find? (fitsQ q) with
  | none =>
    simp only
    rw [List.filter_eq_nil_iff.2 fun e he hp => ?_]
    · rfl
    · rw [Bool.and_eq_true, seesE_iff, h.find hs hg he q, hf] at hp
      cases hp.1.1
  | some e0 =>
    have he0 := List.mem_of_find?_eq_some hf
    have hc : g.filter (fun e => seesE l0 L q e && isPut e) = g.filter (fun x => decide (x = e0) && (isPut x && decide (coverE L x.key.user q ≤ x.key.seq.toNat))) := by
      refine List.filter_congr fun e he => ?_
      rw [Bool.eq_iff_iff, Bool.and_eq_true, seesE_iff, h.find hs hg he q, hf]
      simp only [Option.some.injEq, Bool.and_eq_true, decide_eq_true_eq]
      constructor
      · rintro ⟨⟨rfl, h2⟩, h3⟩; exact ⟨rfl, h3, h2⟩
      · rintro ⟨rfl, h3, h2⟩; exact ⟨⟨rfl, h2⟩, h3⟩
    rw [hc, filter_is hgs.nodup he0]
    simp only
    split <;> rfl
theorem seen_groups {l0 : List Ent} {gs : List (List Ent)} (h : Groups l0 gs []) (hs : SortedE l0) (L : List SpanE) (q : Nat) : gs.flatMap (seenG L q) = seenE l0 L q := by
  have key : ∀ k : List (List Ent), (∀ g ∈ k, g ∈ gs) → k.flatMap (seenG L q) = (k.flatten.filter fun e => seesE l0 L q e && isPut e).map pairOf := by
    intro k
    induction k with
    | nil => intro _; rfl
    | cons g k ih =>
      intro hk
      rw [List.flatMap_cons, List.flatten_cons, List.filter_append, List.map_append, ih fun x hx => hk x (List.mem_cons_of_mem _ hx), seen_group h hs (hk g List.mem_cons_self)]
  have := key gs fun _ h => h
  rw [this, h.flat0]
  rfl
theorem seenG_len (L : List SpanE) (q : Nat) (g : List Ent) : (seenG L q g).length ≤ 1 := by
  unfold seenG
  split
  · simp
  · split <;> simp
theorem flatMap_len {α β : Type} (f : α → List β) (h : ∀ a, (f a).length ≤ 1) : ∀ l : List α, (l.flatMap f).length ≤ l.length
  | [] => by simp
  | a :: l => by
    have h1 := flatMap_len f h l
    have h2 := h a
    rw [List.flatMap_cons, List.length_append, List.length_cons]
    omega
theorem find_idx {g : List Ent} {q i : Nat} (h : idxI (fitsQ q) g = i) : ∃ hi : i < g.length, g.find? (fitsQ q) = some g[i] := by
  rcases idxI_spec (fitsQ q) g with ⟨h1, -⟩ | ⟨j, h1, hj, hp, hno⟩
  · omega
  · obtain rfl : j = i := by omega
    exact ⟨hj, List.find?_eq_some_iff_getElem.2 ⟨hp, j, hj, rfl, fun k hk => by simp [hno k hk (by omega)]⟩⟩
theorem find_noidx {g : List Ent} {q : Nat} (h : idxI (fitsQ q) g < 0) : g.find? (fitsQ q) = none := by
  rcases idxI_spec (fitsQ q) g with ⟨-, h1⟩ | ⟨j, h1, -⟩
  · exact List.find?_eq_none.2 fun x hx => by simp [h1 x hx]
  · omega
end Go.Proofs.Yteaanagljmcidaa
namespace Go.Proofs.Yteaanagljmcidaa
open Go.RowKit

attribute [local go_sem ↓] Go.wp_at_zero Go.wp_at_succ

/-- Does a number see version i? -/
def needB (L : List SpanE) (g : List Ent) (i : Nat) (e : Ent) (q : UInt64) : Bool := decide (idxI (fitsQ q.toNat) g = i) && decide (coverE L e.key.user q.toNat ≤ e.key.seq.toNat)

set_option maxRecDepth 100000 in
set_option maxHeartbeats 4000000 in
theorem needed1 (w : World) {F FT H : Nat → Prop} {xv v u y : Value} {B1 B2 B3 B4 T : Nat} (L : List SpanE) (g : List Ent) (i : Nat) (e : Ent) (q : UInt64) (hT : Tb w FT T v L) (hx : Sl entC w F xv g)
    (h1 : w.cell? ⟨B1, 0, none⟩ = some xv) (h2 : w.cell? ⟨B2, 0, none⟩ = some (.int .i64 (i : Int))) (h3 : w.cell? ⟨B3, 0, none⟩ = some (.pointer (some ⟨T, 0, none⟩))) (h4 : w.cell? ⟨B4, 0, none⟩ = some u ∧ w.cell? ⟨B4, 1, none⟩ = some (u64V e.key.seq) ∧ w.cell? ⟨B4, 2, none⟩ = some (byteV e.key.kind) ∧ w.cell? ⟨B4, 3, none⟩ = some y) (hu : Bs w H u e.key.user) :
    Calls Try.prog 160 #[u64V q, .pointer (some ⟨B1, 0, none⟩), .pointer (some ⟨B2, 0, none⟩), .pointer (some ⟨B3, 0, none⟩), .pointer (some ⟨B4, 0, none⟩)] w fun r w' => r = .returned (.bool (needB L g i e q)) ∧ Ext w w' := by
  obtain ⟨A, n, c, rfl⟩ := hx.form0
  obtain ⟨U, N, m, rfl⟩ := hu.form0
  obtain ⟨k0, k1, k2, k3⟩ := h4
  have HC := gl_newest w.drew g hx.drew q.toNat
  have HT := Lib.hid hT
  have Hu := Lib.hid hu
  have Hn : Hid (needB L g i e q = (decide (idxI (fitsQ q.toNat) g = i) && decide (coverE L e.key.user q.toNat ≤ e.key.seq.toNat))) := Lib.hid rfl
  clear hx hT hu
  generalize idxI (fitsQ q.toNat) g = z at *
  have HCv := Lib.hid fun w' (hx : Ext w w') => tomb_cover (HT.out.ext hx) e.key.user (Hu.out.ext hx) q.toNat
  by_cases hz : z = i
  · subst hz
    have HC := Lib.hid HC
    generalize coverE L e.key.user q.toNat = cv at *
    have Hn2 : Hid (needB L g i e q = decide (cv ≤ e.key.seq.toNat)) := Lib.hid (by rw [Hn.out, decide_eq_true rfl, Bool.true_and])
    go_enter Try.func160, Try.ntmps160
    go_wp2
    refine region_B 99 (fun w' => w'.cell? ⟨B1, 0, none⟩ = some (.slice A n c) ∧ w'.cell? ⟨B2, 0, none⟩ = some (.int .i64 (i : Int)) ∧ w'.cell? ⟨B3, 0, none⟩ = some (.pointer (some ⟨T, 0, none⟩)) ∧ w'.cell? ⟨B4, 0, none⟩ = some (.slice U N m) ∧ w'.cell? ⟨B4, 1, none⟩ = some (u64V e.key.seq)) (by kernel_rfl) ?q160_1S (fun hHeld0 => ?_)
    case q160_1S => ((first | go_keep | ((try dsimp only); exact ⟨by assumption, by assumption, by assumption, by assumption, by assumption⟩)))
    refine anyB_take (i := 0) (oi := _) (v := ?q160_1v1) rfl (by kernel_rfl) (by kernel_rfl) (by kernel_rfl) (by kernel_rfl) (fun _ _ _ h => h) (Or.inl ⟨by rfl, ?q160_1h1⟩) (by assumption) ?q160_1r1
    case q160_1h1 => (intro w hSw; (try dsimp only at hSw); go_simp; try with_reducible rfl)
    (try simp only [List.getElem_toArray, List.getElem_cons_zero, Act.put, List.setIfInBounds_toArray, List.set_cons_zero, List.set_cons_succ])
    refine anyB_take (i := 1) (oi := _) (v := ?q160_1v2) rfl (by kernel_rfl) (by kernel_rfl) (by kernel_rfl) (by kernel_rfl) (fun _ _ _ h => h) (Or.inl ⟨by rfl, ?q160_1h2⟩) (by assumption) ?q160_1r2
    case q160_1h2 => (intro w hSw; (try dsimp only at hSw); go_simp; try with_reducible rfl)
    (try simp only [List.getElem_toArray, List.getElem_cons_succ, List.getElem_cons_zero, Act.put, List.setIfInBounds_toArray, List.set_cons_zero, List.set_cons_succ])
    refine anyB_take (i := 3) (oi := _) (v := ?q160_1v3) rfl (by kernel_rfl) (by kernel_rfl) (by kernel_rfl) (by kernel_rfl) (fun _ _ _ h => h) (Or.inl ⟨by rfl, ?q160_1h3⟩) (by assumption) ?q160_1r3
    case q160_1h3 => (intro w hSw; (try dsimp only at hSw); go_simp; try with_reducible rfl)
    (try simp only [List.getElem_toArray, List.getElem_cons_succ, List.getElem_cons_zero, Act.put, List.setIfInBounds_toArray, List.set_cons_zero, List.set_cons_succ])
    refine anyB_step (i := 2) (o := _) (by kernel_rfl) (by rfl) (by (simp only [List.getElem?_toArray, List.getElem?_cons_succ, List.getElem?_cons_zero] <;> rfl)) (fun K hK => ?_)
    go_simp; go_at_call 141; refine HC.out.mono ?_; rintro r w1 ⟨rfl, hx1⟩; have HX1 := Lib.hid hx1; have a1 := hx1.cell (show (World.drew _).cell? _ = _ from h1) (fun f => f); have a2 := hx1.cell (show (World.drew _).cell? _ = _ from h2) (fun f => f); have a3 := hx1.cell (show (World.drew _).cell? _ = _ from h3) (fun f => f); have a4 := hx1.cell (show (World.drew _).cell? _ = _ from k0) (fun f => f); have a5 := hx1.cell (show (World.drew _).cell? _ = _ from k1) (fun f => f); clear hx1
    (try dsimp only)
    refine hK.out _ _ ?q160_1S4 (fun hHeld1 => ?_)
    case q160_1S4 => ((first | go_keep | ((try dsimp only); exact ⟨by assumption, by assumption, by assumption, by assumption, by assumption⟩)))
    clear hK K hHeld0
    (try simp only [List.getElem_toArray, List.getElem_cons_succ, List.getElem_cons_zero, Act.put, List.setIfInBounds_toArray, List.set_cons_zero, List.set_cons_succ])
    refine anyB_take (i := 4) (oi := _) (v := ?q160_1v5) rfl (by kernel_rfl) (by kernel_rfl) (by kernel_rfl) (by kernel_rfl) (fun _ _ _ h => h) (Or.inl ⟨by rfl, ?q160_1h5⟩) (by assumption) ?q160_1r5
    case q160_1h5 => (intro w hSw; (try dsimp only at hSw); go_simp; try with_reducible rfl)
    (try simp only [List.getElem_toArray, List.getElem_cons_succ, List.getElem_cons_zero, Act.put, List.setIfInBounds_toArray, List.set_cons_zero, List.set_cons_succ])
    refine anyB_take (i := 5) (oi := _) (v := ?q160_1v6) rfl (by kernel_rfl) (by kernel_rfl) (by kernel_rfl) (by kernel_rfl) (fun _ _ _ h => h) (Or.inl ⟨by rfl, ?q160_1h6⟩) (by assumption) ?q160_1r6
    case q160_1h6 => (intro w hSw; (try dsimp only at hSw); go_simp; try with_reducible rfl)
    (try simp only [List.getElem_toArray, List.getElem_cons_succ, List.getElem_cons_zero, Act.put, List.setIfInBounds_toArray, List.set_cons_zero, List.set_cons_succ])
    refine anyB_take (i := 6) (oi := _) (v := ?q160_1v7) rfl (by kernel_rfl) (by kernel_rfl) (by kernel_rfl) (by kernel_rfl) (fun _ _ _ h => h) (Or.inl ⟨by rfl, ?q160_1h7⟩) (by assumption) ?q160_1r7
    case q160_1h7 => (intro w hSw; (try dsimp only at hSw); go_simp; try with_reducible rfl)
    (try simp only [List.getElem_toArray, List.getElem_cons_succ, List.getElem_cons_zero, Act.put, List.setIfInBounds_toArray, List.set_cons_zero, List.set_cons_succ])
    refine anyB_take (i := 7) (oi := _) (v := ?q160_1v8) rfl (by kernel_rfl) (by kernel_rfl) (by kernel_rfl) (by kernel_rfl) (fun _ _ _ h => h) (Or.inl ⟨by rfl, ?q160_1h8⟩) (by assumption) ?q160_1r8
    case q160_1h8 => (intro w hSw; (try dsimp only at hSw); go_simp; try with_reducible rfl)
    (try simp only [List.getElem_toArray, List.getElem_cons_succ, List.getElem_cons_zero, Act.put, List.setIfInBounds_toArray, List.set_cons_zero, List.set_cons_succ])
    refine anyB_take (i := 8) (oi := _) (v := ?q160_1v9) rfl (by kernel_rfl) (by kernel_rfl) (by kernel_rfl) (by kernel_rfl) (fun _ _ _ h => h) (Or.inl ⟨by rfl, ?q160_1h9⟩) (by assumption) ?q160_1r9
    case q160_1h9 => (intro w hSw; (try dsimp only at hSw); go_simp; try with_reducible rfl)
    (try simp only [List.getElem_toArray, List.getElem_cons_succ, List.getElem_cons_zero, Act.put, List.setIfInBounds_toArray, List.set_cons_zero, List.set_cons_succ])
    refine anyB_take (i := 9) (oi := _) (v := ?q160_1v10) rfl (by kernel_rfl) (by kernel_rfl) (by kernel_rfl) (by kernel_rfl) (fun _ _ _ h => h) (Or.inl ⟨by rfl, ?q160_1h10⟩) (by assumption) ?q160_1r10
    case q160_1h10 => (intro w hSw; (try dsimp only at hSw); go_simp; try with_reducible rfl)
    (try simp only [List.getElem_toArray, List.getElem_cons_succ, List.getElem_cons_zero, Act.put, List.setIfInBounds_toArray, List.set_cons_zero, List.set_cons_succ])
    refine anyB_take (i := 10) (oi := _) (v := ?q160_1v11) rfl (by kernel_rfl) (by kernel_rfl) (by kernel_rfl) (by kernel_rfl) (fun _ _ _ h => h) (Or.inl ⟨by rfl, ?q160_1h11⟩) (by assumption) ?q160_1r11
    case q160_1h11 => (intro w hSw; (try dsimp only at hSw); go_simp; try with_reducible rfl)
    (try simp only [List.getElem_toArray, List.getElem_cons_succ, List.getElem_cons_zero, Act.put, List.setIfInBounds_toArray, List.set_cons_zero, List.set_cons_succ])
    refine anyB_take (i := 12) (oi := _) (v := ?q160_1v12) rfl (by kernel_rfl) (by kernel_rfl) (by kernel_rfl) (by kernel_rfl) (fun _ _ _ h => h) (Or.inl ⟨by rfl, ?q160_1h12⟩) (by assumption) ?q160_1r12
    case q160_1h12 => (intro w hSw; (try dsimp only at hSw); go_simp; try with_reducible rfl)
    (try simp only [List.getElem_toArray, List.getElem_cons_succ, List.getElem_cons_zero, Act.put, List.setIfInBounds_toArray, List.set_cons_zero, List.set_cons_succ])
    refine anyB_take (i := 13) (oi := _) (v := ?q160_1v13) rfl (by kernel_rfl) (by kernel_rfl) (by kernel_rfl) (by kernel_rfl) (fun _ _ _ h => h) (Or.inl ⟨by rfl, ?q160_1h13⟩) (by assumption) ?q160_1r13
    case q160_1h13 => (intro w hSw; (try dsimp only at hSw); go_simp; try with_reducible rfl)
    (try simp only [List.getElem_toArray, List.getElem_cons_succ, List.getElem_cons_zero, Act.put, List.setIfInBounds_toArray, List.set_cons_zero, List.set_cons_succ])
    refine anyB_take (i := 14) (oi := _) (v := ?q160_1v14) rfl (by kernel_rfl) (by kernel_rfl) (by kernel_rfl) (by kernel_rfl) (fun _ _ _ h => h) (Or.inl ⟨by rfl, ?q160_1h14⟩) (by assumption) ?q160_1r14
    case q160_1h14 => (intro w hSw; (try dsimp only at hSw); go_simp; try with_reducible rfl)
    (try simp only [List.getElem_toArray, List.getElem_cons_succ, List.getElem_cons_zero, Act.put, List.setIfInBounds_toArray, List.set_cons_zero, List.set_cons_succ])
    refine anyB_step (i := 11) (o := _) (by kernel_rfl) (by rfl) (by (simp only [List.getElem?_toArray, List.getElem?_cons_succ, List.getElem?_cons_zero] <;> rfl)) (fun K hK => ?_)
    rw [if_pos (by rfl)]
    go_simp; go_at_call 139; refine (HCv.out _ ((Out.refl _ w).drew.ext HX1.out)).mono ?_; rintro r w2 ⟨rfl, hx2⟩; have HX2 := Lib.hid hx2; have b1 := hx2.cell a1 (fun f => f); have b2 := hx2.cell a2 (fun f => f); have b3 := hx2.cell a3 (fun f => f); have b4 := hx2.cell a4 (fun f => f); have b5 := hx2.cell a5 (fun f => f); clear hx2
    (try dsimp only)
    refine hK.out _ _ ?q160_1S15 (fun hHeld2 => ?_)
    case q160_1S15 => ((first | go_keep | ((try dsimp only); exact ⟨by assumption, by assumption, by assumption, by assumption, by assumption⟩)))
    clear hK K hHeld1
    (try simp only [List.getElem_toArray, List.getElem_cons_succ, List.getElem_cons_zero, Act.put, List.setIfInBounds_toArray, List.set_cons_zero, List.set_cons_succ])
    refine anyB_take (i := 15) (oi := _) (v := ?q160_1v16) rfl (by kernel_rfl) (by kernel_rfl) (by kernel_rfl) (by kernel_rfl) (fun _ _ _ h => h) (Or.inl ⟨by rfl, ?q160_1h16⟩) (by assumption) ?q160_1r16
    case q160_1h16 => (intro w hSw; (try dsimp only at hSw); go_simp; try with_reducible rfl)
    (try simp only [List.getElem_toArray, List.getElem_cons_succ, List.getElem_cons_zero, Act.put, List.setIfInBounds_toArray, List.set_cons_zero, List.set_cons_succ])
    refine anyB_take (i := 16) (oi := _) (v := ?q160_1v17) rfl (by kernel_rfl) (by kernel_rfl) (by kernel_rfl) (by kernel_rfl) (fun _ _ _ h => h) (Or.inl ⟨by rfl, ?q160_1h17⟩) (by assumption) ?q160_1r17
    case q160_1h17 => (intro w hSw; (try dsimp only at hSw); go_simp; try with_reducible rfl)
    (try simp only [List.getElem_toArray, List.getElem_cons_succ, List.getElem_cons_zero, Act.put, List.setIfInBounds_toArray, List.set_cons_zero, List.set_cons_succ])
    refine anyB_take (i := 17) (oi := _) (v := ?q160_1v18) rfl (by kernel_rfl) (by kernel_rfl) (by kernel_rfl) (by kernel_rfl) (fun _ _ _ h => h) (Or.inl ⟨by rfl, ?q160_1h18⟩) (by assumption) ?q160_1r18
    case q160_1h18 => (intro w hSw; (try dsimp only at hSw); go_simp; try with_reducible rfl)
    (try simp only [List.getElem_toArray, List.getElem_cons_succ, List.getElem_cons_zero, Act.put, List.setIfInBounds_toArray, List.set_cons_zero, List.set_cons_succ])
    refine anyB_done (by kernel_rfl) ?_ _
    go_wp2
    go_ret
    exact ⟨by rw [Hn2.out]; simp, (Out.refl _ w).drew.ext (HX1.out.ext HX2.out)⟩
  · have HC := Lib.hid HC
    have hzb : (z == (i : Int)) = false := by simpa using hz
    have Hn2 : Hid (needB L g i e q = false) := Lib.hid (by rw [Hn.out, decide_eq_false hz, Bool.false_and])
    clear hz
    go_enter Try.func160, Try.ntmps160
    go_wp2
    refine region_B 99 (fun w' => w'.cell? ⟨B1, 0, none⟩ = some (.slice A n c) ∧ w'.cell? ⟨B2, 0, none⟩ = some (.int .i64 (i : Int)) ∧ w'.cell? ⟨B3, 0, none⟩ = some (.pointer (some ⟨T, 0, none⟩)) ∧ w'.cell? ⟨B4, 0, none⟩ = some (.slice U N m) ∧ w'.cell? ⟨B4, 1, none⟩ = some (u64V e.key.seq)) (by kernel_rfl) ?q160_1b1S (fun hHeld0 => ?_)
    case q160_1b1S => ((first | go_keep | ((try dsimp only); exact ⟨by assumption, by assumption, by assumption, by assumption, by assumption⟩)))
    refine anyB_take (i := 0) (oi := _) (v := ?q160_1b1v1) rfl (by kernel_rfl) (by kernel_rfl) (by kernel_rfl) (by kernel_rfl) (fun _ _ _ h => h) (Or.inl ⟨by rfl, ?q160_1b1h1⟩) (by assumption) ?q160_1b1r1
    case q160_1b1h1 => (intro w hSw; (try dsimp only at hSw); go_simp; try with_reducible rfl)
    (try simp only [List.getElem_toArray, List.getElem_cons_zero, Act.put, List.setIfInBounds_toArray, List.set_cons_zero, List.set_cons_succ])
    refine anyB_take (i := 1) (oi := _) (v := ?q160_1b1v2) rfl (by kernel_rfl) (by kernel_rfl) (by kernel_rfl) (by kernel_rfl) (fun _ _ _ h => h) (Or.inl ⟨by rfl, ?q160_1b1h2⟩) (by assumption) ?q160_1b1r2
    case q160_1b1h2 => (intro w hSw; (try dsimp only at hSw); go_simp; try with_reducible rfl)
    (try simp only [List.getElem_toArray, List.getElem_cons_succ, List.getElem_cons_zero, Act.put, List.setIfInBounds_toArray, List.set_cons_zero, List.set_cons_succ])
    refine anyB_take (i := 3) (oi := _) (v := ?q160_1b1v3) rfl (by kernel_rfl) (by kernel_rfl) (by kernel_rfl) (by kernel_rfl) (fun _ _ _ h => h) (Or.inl ⟨by rfl, ?q160_1b1h3⟩) (by assumption) ?q160_1b1r3
    case q160_1b1h3 => (intro w hSw; (try dsimp only at hSw); go_simp; try with_reducible rfl)
    (try simp only [List.getElem_toArray, List.getElem_cons_succ, List.getElem_cons_zero, Act.put, List.setIfInBounds_toArray, List.set_cons_zero, List.set_cons_succ])
    refine anyB_step (i := 2) (o := _) (by kernel_rfl) (by rfl) (by (simp only [List.getElem?_toArray, List.getElem?_cons_succ, List.getElem?_cons_zero] <;> rfl)) (fun K hK => ?_)
    go_simp; go_at_call 141; refine HC.out.mono ?_; rintro r w1 ⟨rfl, hx1⟩; have HX1 := Lib.hid hx1; have a1 := hx1.cell (show (World.drew _).cell? _ = _ from h1) (fun f => f); have a2 := hx1.cell (show (World.drew _).cell? _ = _ from h2) (fun f => f); have a3 := hx1.cell (show (World.drew _).cell? _ = _ from h3) (fun f => f); have a4 := hx1.cell (show (World.drew _).cell? _ = _ from k0) (fun f => f); have a5 := hx1.cell (show (World.drew _).cell? _ = _ from k1) (fun f => f); clear hx1
    (try dsimp only)
    refine hK.out _ _ ?q160_1b1S4 (fun hHeld1 => ?_)
    case q160_1b1S4 => ((first | go_keep | ((try dsimp only); exact ⟨by assumption, by assumption, by assumption, by assumption, by assumption⟩)))
    clear hK K hHeld0
    (try simp only [List.getElem_toArray, List.getElem_cons_succ, List.getElem_cons_zero, Act.put, List.setIfInBounds_toArray, List.set_cons_zero, List.set_cons_succ])
    refine anyB_take (i := 4) (oi := _) (v := ?q160_1b1v5) rfl (by kernel_rfl) (by kernel_rfl) (by kernel_rfl) (by kernel_rfl) (fun _ _ _ h => h) (Or.inl ⟨by rfl, ?q160_1b1h5⟩) (by assumption) ?q160_1b1r5
    case q160_1b1h5 => (intro w hSw; (try dsimp only at hSw); go_simp; try with_reducible rfl)
    (try simp only [List.getElem_toArray, List.getElem_cons_succ, List.getElem_cons_zero, Act.put, List.setIfInBounds_toArray, List.set_cons_zero, List.set_cons_succ])
    refine anyB_take (i := 5) (oi := _) (v := ?q160_1b1v6) rfl (by kernel_rfl) (by kernel_rfl) (by kernel_rfl) (by kernel_rfl) (fun _ _ _ h => h) (Or.inl ⟨by rfl, ?q160_1b1h6⟩) (by assumption) ?q160_1b1r6
    case q160_1b1h6 => (intro w hSw; (try dsimp only at hSw); go_simp; try with_reducible rfl)
    (try simp only [List.getElem_toArray, List.getElem_cons_succ, List.getElem_cons_zero, Act.put, List.setIfInBounds_toArray, List.set_cons_zero, List.set_cons_succ])
    refine anyB_take (i := 6) (oi := _) (v := undef) rfl (by kernel_rfl) (by kernel_rfl) (by kernel_rfl) (by kernel_rfl) (fun _ _ _ h => h) (Or.inr ⟨by rfl, rfl⟩) (by assumption) ?q160_1b1r7
    (try simp only [List.getElem_toArray, List.getElem_cons_succ, List.getElem_cons_zero, Act.put, List.setIfInBounds_toArray, List.set_cons_zero, List.set_cons_succ])
    refine anyB_take (i := 7) (oi := _) (v := undef) rfl (by kernel_rfl) (by kernel_rfl) (by kernel_rfl) (by kernel_rfl) (fun _ _ _ h => h) (Or.inr ⟨by rfl, rfl⟩) (by assumption) ?q160_1b1r8
    (try simp only [List.getElem_toArray, List.getElem_cons_succ, List.getElem_cons_zero, Act.put, List.setIfInBounds_toArray, List.set_cons_zero, List.set_cons_succ])
    refine anyB_take (i := 8) (oi := _) (v := undef) rfl (by kernel_rfl) (by kernel_rfl) (by kernel_rfl) (by kernel_rfl) (fun _ _ _ h => h) (Or.inr ⟨by rfl, rfl⟩) (by assumption) ?q160_1b1r9
    (try simp only [List.getElem_toArray, List.getElem_cons_succ, List.getElem_cons_zero, Act.put, List.setIfInBounds_toArray, List.set_cons_zero, List.set_cons_succ])
    refine anyB_take (i := 9) (oi := _) (v := undef) rfl (by kernel_rfl) (by kernel_rfl) (by kernel_rfl) (by kernel_rfl) (fun _ _ _ h => h) (Or.inr ⟨by rfl, rfl⟩) (by assumption) ?q160_1b1r10
    (try simp only [List.getElem_toArray, List.getElem_cons_succ, List.getElem_cons_zero, Act.put, List.setIfInBounds_toArray, List.set_cons_zero, List.set_cons_succ])
    refine anyB_take (i := 10) (oi := _) (v := undef) rfl (by kernel_rfl) (by kernel_rfl) (by kernel_rfl) (by kernel_rfl) (fun _ _ _ h => h) (Or.inr ⟨by rfl, rfl⟩) (by assumption) ?q160_1b1r11
    (try simp only [List.getElem_toArray, List.getElem_cons_succ, List.getElem_cons_zero, Act.put, List.setIfInBounds_toArray, List.set_cons_zero, List.set_cons_succ])
    refine anyB_take (i := 12) (oi := _) (v := undef) rfl (by kernel_rfl) (by kernel_rfl) (by kernel_rfl) (by kernel_rfl) (fun _ _ _ h => h) (Or.inr ⟨by rfl, rfl⟩) (by assumption) ?q160_1b1r12
    (try simp only [List.getElem_toArray, List.getElem_cons_succ, List.getElem_cons_zero, Act.put, List.setIfInBounds_toArray, List.set_cons_zero, List.set_cons_succ])
    refine anyB_take (i := 13) (oi := _) (v := undef) rfl (by kernel_rfl) (by kernel_rfl) (by kernel_rfl) (by kernel_rfl) (fun _ _ _ h => h) (Or.inr ⟨by rfl, rfl⟩) (by assumption) ?q160_1b1r13
    (try simp only [List.getElem_toArray, List.getElem_cons_succ, List.getElem_cons_zero, Act.put, List.setIfInBounds_toArray, List.set_cons_zero, List.set_cons_succ])
    refine anyB_take (i := 14) (oi := _) (v := undef) rfl (by kernel_rfl) (by kernel_rfl) (by kernel_rfl) (by kernel_rfl) (fun _ _ _ h => h) (Or.inr ⟨by rfl, rfl⟩) (by assumption) ?q160_1b1r14
    (try simp only [List.getElem_toArray, List.getElem_cons_succ, List.getElem_cons_zero, Act.put, List.setIfInBounds_toArray, List.set_cons_zero, List.set_cons_succ])
    refine anyB_step (i := 11) (o := _) (by kernel_rfl) (by rfl) (by (simp only [List.getElem?_toArray, List.getElem?_cons_succ, List.getElem?_cons_zero] <;> rfl)) (fun K hK => ?_)
    refine Eq.mpr (if_neg ?q160_1b1w15) ?_
    case q160_1b1w15 => (intro hw; exact absurd (show false = true from hw) (by decide))
    refine hK.out _ _ ?q160_1b1S15 (fun hHeld2 => ?_)
    case q160_1b1S15 => ((first | go_keep | ((try dsimp only); exact ⟨by assumption, by assumption, by assumption, by assumption, by assumption⟩)))
    clear hK K hHeld1
    (try simp only [Act.put, List.setIfInBounds_toArray, List.set_cons_zero, List.set_cons_succ])
    refine anyB_take (i := 15) (oi := _) (v := undef) rfl (by kernel_rfl) (by kernel_rfl) (by kernel_rfl) (by kernel_rfl) (fun _ _ _ h => h) (Or.inr ⟨by rfl, rfl⟩) (by assumption) ?q160_1b1r16
    (try simp only [List.getElem_toArray, List.getElem_cons_succ, List.getElem_cons_zero, Act.put, List.setIfInBounds_toArray, List.set_cons_zero, List.set_cons_succ])
    refine anyB_take (i := 16) (oi := _) (v := ?q160_1b1v17) rfl (by kernel_rfl) (by kernel_rfl) (by kernel_rfl) (by kernel_rfl) (fun _ _ _ h => h) (Or.inl ⟨by rfl, ?q160_1b1h17⟩) (by assumption) ?q160_1b1r17
    case q160_1b1h17 => (intro w hSw; (try dsimp only at hSw); go_simp; try with_reducible rfl)
    (try simp only [List.getElem_toArray, List.getElem_cons_succ, List.getElem_cons_zero, Act.put, List.setIfInBounds_toArray, List.set_cons_zero, List.set_cons_succ])
    refine anyB_take (i := 17) (oi := _) (v := ?q160_1b1v18) rfl (by kernel_rfl) (by kernel_rfl) (by kernel_rfl) (by kernel_rfl) (fun _ _ _ h => h) (Or.inl ⟨by rfl, ?q160_1b1h18⟩) (by assumption) ?q160_1b1r18
    case q160_1b1h18 => (intro w hSw; (try dsimp only at hSw); go_simp; try with_reducible rfl)
    (try simp only [List.getElem_toArray, List.getElem_cons_succ, List.getElem_cons_zero, Act.put, List.setIfInBounds_toArray, List.set_cons_zero, List.set_cons_succ])
    refine anyB_done (by kernel_rfl) ?_ _
    go_wp2
    go_ret
    exact ⟨by rw [Hn2.out]; rfl, (Out.refl _ w).drew.ext HX1.out⟩

/-- Is it the newest of its key as some number sees it, and over its spans? -/
def needP (L : List SpanE) (g : List Ent) (qs : List UInt64) (e : Ent) : Bool := qs.any fun q => decide (g.find? (fitsQ q.toNat) = some e) && decide (coverE L e.key.user q.toNat ≤ e.key.seq.toNat)
theorem idx_find {g : List Ent} (hn : g.Nodup) {i : Nat} (hi : i < g.length) (q : Nat) : idxI (fitsQ q) g = i ↔ g.find? (fitsQ q) = some g[i] := by
  constructor
  · intro h
    obtain ⟨_, h2⟩ := find_idx h
    exact h2
  · intro h
    rcases idxI_spec (fitsQ q) g with ⟨-, h1⟩ | ⟨j, h1, hj, hp, hno⟩
    · have := List.find?_some h
      rw [h1 _ (List.getElem_mem hi)] at this
      cases this
    · have h2 : g.find? (fitsQ q) = some g[j] := List.find?_eq_some_iff_getElem.2 ⟨hp, j, hj, rfl, fun k hk => by simp [hno k hk (by omega)]⟩
      rw [h] at h2
      injection h2 with h2
      have h3 : i = j := by
        rcases Nat.lt_trichotomy i j with h4 | h4 | h4
        · exact absurd h2 (List.pairwise_iff_getElem.1 hn i j hi hj h4)
        · exact h4
        · exact absurd h2.symm (List.pairwise_iff_getElem.1 hn j i hj hi h4)
      rw [h1, h3]
theorem needP_at {L : List SpanE} {g : List Ent} (hn : g.Nodup) {qs : List UInt64} {i : Nat} (hi : i < g.length) : needP L g qs g[i] = qs.any (needB L g i g[i]) := by
  unfold needP
  congr 1
  funext q
  unfold needB
  congr 1
  rw [Bool.eq_iff_iff, decide_eq_true_eq, decide_eq_true_eq, idx_find hn hi]

set_option maxRecDepth 100000 in
set_option maxHeartbeats 4000000 in
theorem gl_needed (w : World) {F FT H : Nat → Prop} {xv v sv : Value} {T : Nat} (L : List SpanE) (g : List Ent) (qs : List UInt64) (hT : Tb w FT T v L) (hx : Sl entC w F xv g) (hF : ∀ b, F b → b < w.heap.size) (hs : Sl u64C w H sv qs) (hn : g.Nodup) (hl : g.length ≤ 1000) :
    Calls Try.prog 120 #[xv, .pointer (some ⟨T, 0, none⟩), sv] w fun r w' => ∃ v', r = .returned v' ∧ Ext w w' ∧ Sl entC w' (fun b => F b ∨ w.heap.size ≤ b) v' (g.filter (needP L g qs)) := by
  obtain ⟨A, cap, rfl, -⟩ := hx.form
  obtain ⟨S, n, c, rfl⟩ := hs.form0
  have Hx := Lib.hid hx
  have HT := Lib.hid hT
  have Hs := Lib.hid hs
  have Hn := Lib.hid hn
  have hb0 : ((w.alloc (.cells #[.slice A g.length cap] 43)).alloc (.cells #[.pointer (some ⟨T, 0, none⟩)] 168)).heap[w.heap.size]? = some (.cells #[.slice A g.length cap] 43) := blk_alloc (blk_new _ _) _
  have hb1 : ((w.alloc (.cells #[.slice A g.length cap] 43)).alloc (.cells #[.pointer (some ⟨T, 0, none⟩)] 168)).heap[w.heap.size + 1]? = some (.cells #[.pointer (some ⟨T, 0, none⟩)] 168) := blk_at (by simp)
  have HB0 := Lib.hid hb0
  have HB1 := Lib.hid hb1
  have HX0 := Lib.hid (((Ext.alloc1 w (.cells #[.slice A g.length cap] 43)).alloc (.cells #[.pointer (some ⟨T, 0, none⟩)] 168)))
  have z0 := (cells1 hb0).1
  clear hx hT hs hn hb0 hb1
  go_enter Try.func120, Try.ntmps120
  go_wp2
  go_loopw [7, 12] (fun s7 s12 wr => ∃ i : Nat, i ≤ g.length ∧ s12 = .int .i64 i ∧ Own entC 32 wr (w.heap.size + 2) F s7 ((g.take i).filter (needP L g qs)) ∧ Ext ((w.alloc (.cells #[.slice A g.length cap] 43)).alloc (.cells #[.pointer (some ⟨T, 0, none⟩)] 168)) wr) (fun _ s12 _ => g.length - (intOf s12).toNat)
  case atStart => exact ⟨0, Nat.zero_le _, rfl, Own.nil _ _ _ _ _, Out.refl _ _⟩
  case round =>
    obtain ⟨wo, rfl⟩ : ∃ x : World, x = wr := ⟨_, rfl⟩
    obtain ⟨i, hi, rfl, hown, hxo⟩ := hrel
    obtain ⟨S7, n7, c7, rfl⟩ := hown.form0
    have HX := Lib.hid (HX0.out.ext hxo)
    have HXo := Lib.hid hxo
    have Hown := Lib.hid hown
    have Hlt := Lib.hid hown.lt
    have hsz := HX.out.size
    have hsz2 := hxo.size
    simp only [World.size_alloc] at hsz2
    clear hxo hown
    by_cases hlt : i < g.length
    · as_aux_lemma =>
        obtain ⟨b1, o1, u1, v1, rfl, -, c0, c1, c2, c3, hu, hv⟩ := (Hx.out.ext HX.out).ent i hlt
        obtain ⟨U1, N1, n1, rfl⟩ := hu.form0
        obtain ⟨V1, M1, m1, rfl⟩ := hv.form0
        have hsn : (g.take (i + 1)).filter (needP L g qs) = (g.take i).filter (needP L g qs) ++ if qs.any (needB L g i g[i]) = true then [g[i]] else [] := by
          rw [List.take_succ_eq_append_getElem hlt, List.filter_append]
          congr 1
          rw [← needP_at Hn.out hlt]
          cases h : needP L g qs g[i] <;> simp [h]
        have hfl := List.length_filter_le (needP L g qs) (g.take i)
        rw [List.length_take] at hfl
        have Hsn := Lib.hid hsn
        have x1 : Ext wo ((wo.alloc (.cells #[.int .i64 (i : Int)] 3)).alloc (.cells #[.slice U1 N1 n1, u64V g[i].key.seq, byteV g[i].key.kind, .slice V1 M1 m1] 32)) := (Ext.alloc1 _ _).alloc _
        have hy0 : ((wo.alloc (.cells #[.int .i64 (i : Int)] 3)).alloc (.cells #[.slice U1 N1 n1, u64V g[i].key.seq, byteV g[i].key.kind, .slice V1 M1 m1] 32)).heap[wo.heap.size]? = some (.cells #[.int .i64 (i : Int)] 3) := blk_alloc (blk_new _ _) _
        have hy1 : ((wo.alloc (.cells #[.int .i64 (i : Int)] 3)).alloc (.cells #[.slice U1 N1 n1, u64V g[i].key.seq, byteV g[i].key.kind, .slice V1 M1 m1] 32)).heap[wo.heap.size + 1]? = some (.cells #[.slice U1 N1 n1, u64V g[i].key.seq, byteV g[i].key.kind, .slice V1 M1 m1] 32) := blk_at (by simp)
        have y0 := (cells1 hy0).1
        obtain ⟨e0, e1, e2, e3, -⟩ := cells4 hy1
        have HY1 := Lib.hid hy1
        have hHC := contains_nums ((wo.alloc (.cells #[.int .i64 (i : Int)] 3)).alloc (.cells #[.slice U1 N1 n1, u64V g[i].key.seq, byteV g[i].key.kind, .slice V1 M1 m1] 32)) 160 (enters_of Try.func160 (by kernel_rfl) rfl) #[.pointer (some ⟨w.heap.size, 0, none⟩), .pointer (some ⟨wo.heap.size, 0, none⟩), .pointer (some ⟨w.heap.size + 1, 0, none⟩), .pointer (some ⟨wo.heap.size + 1, 0, none⟩)] qs ((Hs.out.ext HX.out).ext x1) (needB L g i g[i])
          (fun w1 q _ hx1 => needed1 w1 L g i g[i] q ((HT.out.ext HX.out).ext (x1.ext hx1)) ((Hx.out.ext HX.out).ext (x1.ext hx1)) ((x1.ext hx1).cell (cells1 (HXo.out.blk HB0.out (fun f => f))).1 (fun f => f)) (hx1.cell y0 (fun f => f)) ((x1.ext hx1).cell (cells1 (HXo.out.blk HB1.out (fun f => f))).1 (fun f => f)) ⟨hx1.cell e0 (fun f => f), hx1.cell e1 (fun f => f), hx1.cell e2 (fun f => f), hx1.cell e3 (fun f => f)⟩ (hu.ext (x1.ext hx1)))
        have Hu := Lib.hid hu
        have Hv := Lib.hid hv
        have X1 := Lib.hid x1
        clear hu hv x1 hsn hy0 hy1
        generalize (g.take i).filter (needP L g qs) = R at *
        generalize qs.any (needB L g i g[i]) = q at *
        have HC := Lib.hid hHC
        clear hHC
        generalize g[i] = e at *
        cases q with
        | true =>
          have Hs2 := Lib.hid (Hsn.out.trans (by rw [if_pos rfl]))
          clear Hsn
          go_wp2_with (first
            | (go_at_call 159; refine HC.out.mono ?_; rintro r w2 ⟨rfl, hx2⟩; have HX2 := Lib.hid (X1.out.ext hx2); obtain ⟨f0, f1, f2, f3, -⟩ := cells4 (hx2.blk HY1.out (fun f => f)); have hs2 := HX2.out.size; clear hx2)
            | (at_builtin; refine wpList_append_one rfl (.tmp 20) (.tmp 22) 43 rfl fits32 ((Hown.out.ext HX2.out).ext (Ext.alloc1 _ _)) rfl (by (try simp only [World.size_alloc]); omega) (blk_new _ _) rfl e ⟨_, _, rfl, ((Hu.out.ext HX2.out).alloc _).mono (fun b hb _ => ⟨hb, fun e => by have := (Hlt.out _ e).1; have := hF b hb; omega⟩) (.inl (by decide)), ((Hv.out.ext HX2.out).alloc _).mono (fun b hb _ => ⟨hb, fun e => by have := (Hlt.out _ e).1; have := hF b hb; omega⟩) (.inl (by decide))⟩ (by omega) (by decide) ?_; intro v4 w4 g1 g2 g3; obtain ⟨S4, n4, c4, rfl⟩ := g1.form0; have HG4 := Lib.hid g1; have HP4 := Lib.hid g2; clear g1 g2 g3))
          go_roundw
          case rel => exact ⟨i + 1, by omega, by go_num, by rw [Hs2.out]; exact HG4.out, ((HXo.out.ext HX2.out).alloc _).then HP4.out (fun b hb e => by have := (Hlt.out b e).1; simp at hb; omega)⟩
          case measure => simp [intOf] <;> omega
        | false =>
          have Hs2 := Lib.hid (Hsn.out.trans (by rw [if_neg (by decide), List.append_nil]))
          clear Hsn
          go_wp2_with (go_at_call 159; refine HC.out.mono ?_; rintro r w2 ⟨rfl, hx2⟩)
          go_roundw
          case rel => exact ⟨i + 1, by omega, by go_num, by rw [Hs2.out]; exact Hown.out.ext (X1.out.ext hx2), HXo.out.ext (X1.out.ext hx2)⟩
          case measure => simp [intOf] <;> omega
    · obtain rfl : i = g.length := by omega
      have hfl := List.length_filter_le (needP L g qs) g
      rw [List.take_length] at Hown
      go_wp2
      go_ret
      exact ⟨_, rfl, HX.out, Hown.out.sl (by decide) (by show _ ≤ 140737488355328; omega) (fun b hb _ => .inl hb) (fun b hb _ => .inr (by omega))⟩
end Go.Proofs.Yteaanagljmcidaa
namespace Go.Proofs.Yteaanagljmcidaa

theorem bareE_append : ∀ {g rest : List Ent}, (∀ a ∈ g, ∀ b ∈ rest, a.key.user ≠ b.key.user) → bareE (g ++ rest) = bareE g ++ bareE rest
  | [], _, _ => rfl
  | e :: t, rest, h => by
    have ih := bareE_append (g := t) (rest := rest) fun a ha b hb => h a (List.mem_cons_of_mem _ ha) b hb
    rw [List.cons_append, bareE_cons, bareE_cons, ih]
    cases hb : bareE t with
    | nil =>
      rw [List.nil_append]
      have h1 : (bareE rest).head?.any (fun x => x.key.user == e.key.user) = false := by
        cases hr : bareE rest with
        | nil => rfl
        | cons z r =>
          have hz : z ∈ rest := (bareE_sub rest).subset (by rw [hr]; exact List.mem_cons_self)
          have := h e List.mem_cons_self z hz
          simp only [List.head?_cons, Option.any_some, beq_eq_false_iff_ne]
          exact fun hh => this hh.symm
      unfold bareStep
      rw [h1]
      cases isPut e <;> simp
    | cons z r =>
      unfold bareStep
      rw [List.cons_append, List.head?_cons, List.head?_cons]
      by_cases hc : isPut e = true ∨ (some z).any (fun x => x.key.user == e.key.user) = true
      · rw [if_pos hc, if_pos hc]; rfl
      · rw [if_neg hc, if_neg hc]; rfl
/-- What is kept of one key's entries. -/
def keepG (L : List SpanE) (qs : List UInt64) (bottom : Bool) (g : List Ent) : List Ent := if bottom then bareE (g.filter (needP L g qs)) else g.filter (needP L g qs)
theorem need_group {l0 : List Ent} {gs : List (List Ent)} (h : Groups l0 gs []) (hs : SortedE l0) {g : List Ent} (hg : g ∈ gs) (L : List SpanE) (qs : List UInt64) : g.filter (needP L g qs) = g.filter (staysE l0 L (qs.map (·.toNat))) := by
  refine List.filter_congr fun e he => ?_
  unfold needP staysE
  rw [List.any_map]
  congr 1
  funext q
  unfold seesE
  simp only [Function.comp]
  congr 1
  rw [Bool.eq_iff_iff, decide_eq_true_eq, decide_eq_true_eq, h.find hs hg he]
theorem keep_groups {l0 : List Ent} {gs : List (List Ent)} (h : Groups l0 gs []) (hs : SortedE l0) (L : List SpanE) (qs : List UInt64) (bottom : Bool) : gs.flatMap (keepG L qs bottom) = keepE l0 L bottom (qs.map (·.toNat)) := by
  have key : ∀ k : List (List Ent), (∀ g ∈ k, g ∈ gs) → k.Pairwise (fun g h => ∀ a ∈ g, ∀ b ∈ h, a.key.user ≠ b.key.user) → k.flatMap (keepG L qs bottom) = if bottom then bareE (k.flatten.filter (staysE l0 L (qs.map (·.toNat)))) else k.flatten.filter (staysE l0 L (qs.map (·.toNat))) := by
    intro k
    induction k with
    | nil => intro _ _; cases bottom <;> rfl
    | cons g k ih =>
      intro hk hp
      obtain ⟨hp1, hp2⟩ := List.pairwise_cons.1 hp
      have h1 := ih (fun x hx => hk x (List.mem_cons_of_mem _ hx)) hp2
      have h2 := need_group h hs (hk g List.mem_cons_self) L qs
      rw [List.flatMap_cons, h1, List.flatten_cons, List.filter_append]
      unfold keepG
      rw [h2]
      cases bottom with
      | false => rfl
      | true =>
        simp only [if_true]
        rw [bareE_append]
        intro a ha b hb
        obtain ⟨g', hg', hb'⟩ := List.mem_flatten.1 ((List.mem_filter.1 hb).1)
        exact hp1 g' hg' a (List.mem_filter.1 ha).1 b hb'
  have := key gs (fun _ h => h) h.apart
  rw [this, h.flat0]
  rfl
end Go.Proofs.Yteaanagljmcidaa
namespace Go.Proofs.Yteaanagljmcidaa
open Go.RowKit

attribute [local go_sem ↓] Go.wp_at_zero Go.wp_at_succ

/-- A set of spans of the call's own. -/
def NewTb (w : World) (L : List SpanE) (e : Ending) (w' : World) : Prop := ∃ T FT v, e = .returned (.pointer (some ⟨T, 0, none⟩)) ∧ Ext w w' ∧ Tb w' FT T v L ∧ (∀ b, FT b → w.heap.size ≤ b ∧ b < w'.heap.size) ∧ (∀ b, v.ownBlock = some b → w.heap.size ≤ b) ∧ w.heap.size ≤ T

set_option maxRecDepth 100000 in
set_option maxHeartbeats 4000000 in
theorem tomb_newL (w : World) {H : Nat → Prop} {sv : Value} (L : List SpanE) (hs : Sl spanC w H sv L) (hL : ∀ s ∈ L, scheck s = 0) (hl : L.length ≤ 1000) : Calls Try.prog 117 #[sv] w (NewTb w L) := by
  obtain ⟨A, cap, rfl, -⟩ := hs.form
  have Hs := Lib.hid hs
  have HL := Lib.hid hL
  have HB := Lib.hid (blk_new w (.cells #[.slice none 0 0] 210))
  clear hs hL
  go_enter Try.func117, Try.ntmps117
  go_wp2
  go_loopw [10] (fun s10 wr => ∃ (i : Nat) (FT : Nat → Prop) (v : Value), i ≤ L.length ∧ s10 = .int .i64 i ∧ Tb wr FT w.heap.size v (L.take i) ∧ (∀ b, FT b → w.heap.size < b ∧ b < wr.heap.size) ∧ (∀ b, v.ownBlock = some b → w.heap.size ≤ b) ∧ Ext w wr) (fun s10 _ => L.length - (intOf s10).toNat)
  case atStart =>
    refine ⟨0, (fun _ => False), .slice none 0 0, Nat.zero_le _, rfl, ⟨HB.out, Own.nil _ _ _ _ _, (fun e => by cases e), fun h => h⟩, fun b hb => hb.elim, ?_, Ext.alloc1 _ _⟩
    intro b e; cases e
  case round =>
    obtain ⟨wp, rfl⟩ : ∃ x : World, x = wr := ⟨_, rfl⟩
    obtain ⟨i, FT, v, hi, rfl, htb, hF1, hF2, hxp⟩ := hrel
    have HTp := Lib.hid htb
    have HF1 := Lib.hid hF1
    have HF2 := Lib.hid hF2
    have HXp := Lib.hid hxp
    have hT := blk_lt htb.blk
    clear htb hF1 hF2 hxp
    by_cases hlt2 : i < L.length
    · obtain ⟨b1, o1, u1, v1, rfl, -, c0, c1, c2, hu, hv⟩ := (Hs.out.ext HXp.out).span i hlt2
      obtain ⟨U1, N1, n1, rfl⟩ := hu.form0
      obtain ⟨V1, M1, m1, rfl⟩ := hv.form0
      have x1 := Ext.alloc1 wp (.cells #[.slice U1 N1 n1, .slice V1 M1 m1, u64V L[i].seq] 92)
      obtain ⟨z0, z1, z2, -⟩ := cells3 (blk_new wp (.cells #[.slice U1 N1 n1, .slice V1 M1 m1, u64V L[i].seq] 92))
      have HA := Lib.hid (tomb_add (HTp.out.ext x1) L[i] (hu.ext x1) (hv.ext x1) (HL.out _ (List.getElem_mem hlt2)) (by rw [List.length_take]; omega))
      have X1 := Lib.hid x1
      have Htk := Lib.hid (List.take_succ_eq_append_getElem hlt2)
      generalize L[i] = s at *
      clear hu hv x1
      go_wp2_with (go_at_call 140; refine HA.out.mono ?_; rintro r w4 ⟨rfl, ho4, v4, htb4, hv4⟩; have HO4 := Lib.hid ho4; have HT4 := Lib.hid htb4; have HV4 := Lib.hid hv4; have hz4 := ho4.size; simp only [World.size_alloc] at hz4; clear ho4 htb4 hv4)
      go_roundw
      case rel =>
        exact ⟨i + 1, fun b => (FT b ∨ wp.heap.size + 1 ≤ b) ∧ b < w4.heap.size, v4, by omega, by go_num, by
            rw [Htk.out]
            exact Tb.mono HT4.out (fun b hb hl => ⟨hb.imp id (fun h => by rw [World.size_alloc] at h; exact h), hl⟩) (fun h => HT4.out.cold (h.1.imp id (fun h => by rw [World.size_alloc]; exact h))),
          fun b hb => ⟨hb.1.elim (fun h => (HF1.out b h).1) (fun h => by omega), hb.2⟩,
          fun b hb => by
            rcases HV4.out with h | ⟨g, h, h5⟩
            · rw [h] at hb; exact HF2.out b hb
            · rw [h] at hb; injection hb with hb; rw [World.size_alloc] at h5; omega,
          (HXp.out.ext X1.out).then HO4.out (fun b hb e => by
            rcases e with e | e
            · omega
            · have := HF2.out _ e; omega)⟩
      case measure => simp [intOf] <;> omega
    · obtain rfl : i = L.length := by omega
      rw [List.take_length] at HTp
      go_wp2
      go_ret
      exact ⟨_, FT, v, rfl, HXp.out, HTp.out, fun b hb => ⟨by have := HF1.out b hb; omega, (HF1.out b hb).2⟩, HF2.out, Nat.le_refl _⟩

theorem fits83G : Fits Try.prog 83 28 u64C.size 8 := fits_of Try.underlying83 (by decide) (by kernel_rfl : (Try.prog.info? 28).map (fun i => (i.zero, i.size, i.bytes)) = some (some (.int .u64 0), 1, 8)) rfl
set_option maxRecDepth 100000 in
set_option maxHeartbeats 2000000 in
theorem clone_nums (w : World) {F : Nat → Prop} {x : Value} (l : List UInt64) (hx : Sl u64C w F x l) (hl : l.length ≤ 1000) : Calls Try.prog 118 #[x] w (OwnedM u64C 28 w l) := by
  have hnil := hx.eqlNil (P := Try.prog) Try.underlying83
  obtain ⟨b, hb1, hb2, hb3⟩ := hnil
  obtain ⟨A, n, cap, rfl⟩ := hx.form0
  have Hx := Lib.hid hx
  have H1 := Lib.hid hb1
  have H3 := Lib.hid hb3
  clear hx hb3
  cases b with
  | true =>
    have h0 := H3.out rfl
    subst h0
    go_enter Try.func118, Try.ntmps118
    go_wp2
    go_ret
    exact ⟨_, rfl, Out.refl _ _, Own.nil _ _ _ _ _⟩
  | false =>
    go_enter Try.func118, Try.ntmps118
    go_wp2_with (at_builtin; refine wpList_append_sl rfl (.tmp 5) (.tmp 6) 83 rfl fits83G (Own.empty u64C 28 w (fun b => w.heap.size ≤ b)) rfl (by simp) (Hx.out.alloc _) rfl (fun i hi cs hc => hc) (by simp; omega) (by decide) ?_; intro v' w' g1 g2 g3; rw [List.nil_append] at g1; obtain ⟨A6, n6, c6, rfl⟩ := g1.form0; have G1 := Lib.hid g1; have G2 := Lib.hid g2; clear g1 g2 g3)
    go_ret
    exact ⟨_, rfl, (Ext.alloc1 _ _).then G2.out (fun b hb e => by simp [Value.ownBlock] at e; omega), G1.out⟩
end Go.Proofs.Yteaanagljmcidaa
