/- ref15: Keep. -/
import Derived.Test.YteaanagljmcidaaPkJ
import Derived.Test.YteaanagljmcidaaPkG
import Derived.Test.YteaanagljmcidaaR9
import Derived.Test.YteaanagljmcidaaPkH
namespace Go.Proofs.Yteaanagljmcidaa
open Go.RowKit

attribute [local go_sem ↓] Go.wp_at_zero Go.wp_at_succ

/-- A list of one, as a literal is laid, is owned. -/
theorem own_one {α : Type} {c : Codec α} {e : TypeId} {w : World} {B g : Nat} {F : Nat → Prop} {cs : Array Value} (hb : w.heap[g]? = some (.cells cs e)) (hB : B ≤ g) (hsz : cs.size = c.size) (y : α) (hr : c.rep w (fun b => F b ∧ b ≠ g) cs.toList y) : Own c e w B F (.slice (some ⟨g, 0, none⟩) 1 1) [y] := by
  refine ⟨cs.toList, ⟨by simp [hsz], .inr ⟨g, 1, cs, rfl, hB, hb, Nat.le_refl _, by unfold maxLen; omega, by rw [hsz, Nat.one_mul], by rw [List.length_singleton, Nat.one_mul, List.take_of_length_le (by simp [hsz])]⟩⟩, fun i hi => ?_⟩
  obtain rfl : i = 0 := by simp only [List.length_singleton] at hi; omega
  refine ⟨cs.toList, fun j _ => by rw [Nat.zero_mul, Nat.zero_add], ?_⟩
  exact c.mono hr fun b hb _ => ⟨hb.1, fun e => hb.2 (by injection e with e; exact e.symm)⟩
theorem ents_cold {w : World} {F : Nat → Prop} {m : List Ent} {g : Nat} (hg : ∀ b, F b → b ≠ g) : ∀ i (h : i < m.length) cs, entC.rep w F cs m[i] → entC.rep w (fun b => F b ∧ b ≠ g) cs m[i] := fun _i _h _cs hr => entC.mono hr fun b hb _ => ⟨hb, hg b hb⟩
def sawB (l : List Ent) (e : Ent) (q : UInt64) : Bool := decide (l.find? (fitsK e.key.user q.toNat) = some e)
theorem saw_zero {l : List Ent} (h : SortedE l) (hi : 0 < l.length) (q : UInt64) : sawB l l[0] q = decide (l[0].key.seq.toNat ≤ q.toNat) := by
  unfold sawB
  rw [Bool.eq_iff_iff, decide_eq_true_eq, decide_eq_true_eq, sees_zero h hi]
theorem saw_succ {l : List Ent} (h : SortedE l) {p : Nat} (hi : p + 1 < l.length) (q : UInt64) : sawB l l[p + 1] q = (decide (l[p + 1].key.seq.toNat ≤ q.toNat) && (!(l[p].key.user == l[p + 1].key.user) || decide (q.toNat < l[p].key.seq.toNat))) := by
  unfold sawB
  rw [Bool.eq_iff_iff, decide_eq_true_eq, sees_succ h hi]
  simp
def stayB (l : List Ent) (L : List SpanE) (e : Ent) (q : UInt64) : Bool := sawB l e q && decide (coverE L e.key.user q.toNat ≤ e.key.seq.toNat)
theorem stays_any (l : List Ent) (L : List SpanE) (qs : List UInt64) (e : Ent) : staysE l L (qs.map (·.toNat)) e = qs.any (stayB l L e) := by
  unfold staysE
  rw [List.any_map]
  rfl
theorem any_take {α : Type} (p : α → Bool) {l : List α} {j : Nat} (hj : j < l.length) : (l.take (j + 1)).any p = ((l.take j).any p || p l[j]) := by
  rw [List.take_succ_eq_append_getElem hj, List.any_append]
  simp

theorem headSame_get {K : List Ent} (h : 0 < K.length) (e : Ent) : headSame K e = (K[0].key.user == e.key.user) := by
  cases K with
  | nil => exact absurd h (by simp)
  | cons y t => rfl
theorem headSame_none {K : List Ent} (h : K.length = 0) (e : Ent) : headSame K e = false := by
  cases K with
  | nil => rfl
  | cons y t => simp at h

set_option maxRecDepth 100000 in
set_option maxHeartbeats 8000000 in
theorem r15_keep (w : World) {F H Q : Nat → Prop} {xv sv qv : Value} (l : List Ent) (L : List SpanE) (qs : List UInt64) (bottom : Bool) (hx : Sl entC w F xv l) (hs : Sl spanC w H sv L) (hq : Sl u64C w Q qv qs) (hF : ∀ b, F b → b < w.heap.size) (hH : ∀ b, H b → b < w.heap.size)
    (hsort : SortedE l) (hl1 : l.length ≤ 1000) (hl2 : L.length ≤ 1000) (hl3 : qs.length ≤ 900) :
    Calls Try.prog 65 #[xv, sv, .bool bottom, qv] w fun e w' => ∃ a b, e = .returned (.tuple #[a, b]) ∧ Ext w w' ∧ Sl entC w' (fun b => b < w'.heap.size) a (keepE l L bottom ((qs ++ [maxSeq]).map (·.toNat))) ∧ Sl spanC w' (fun b => b < w'.heap.size) b (leftE (keepE l L bottom ((qs ++ [maxSeq]).map (·.toNat))) L bottom) := by
  obtain ⟨qs2, hqs2⟩ : ∃ q2, q2 = qs ++ [maxSeq] := ⟨_, rfl⟩
  have hq2l : qs2.length ≤ 1000 := by rw [hqs2, List.length_append, List.length_singleton]; omega
  rw [← hqs2]
  have Hqs2 := Lib.hid hqs2
  clear hqs2
  obtain ⟨A, cap, rfl, -⟩ := hx.form
  obtain ⟨S0, cS, rfl, -⟩ := hs.form
  obtain ⟨Z0, m0, k0, rfl⟩ := hq.form0
  have Hx := Lib.hid hx
  have Hs := Lib.hid hs
  have Hq := Lib.hid hq
  have Hsort := Lib.hid hsort
  have hw0 : IntKind.i64.wrap ((l.length : Int) - 1) = (l.length : Int) - 1 := by rw [IntKind.wrap_i64]; omega
  clear hx hs hq hsort
  obtain ⟨mk0, -⟩ : ∃ x : Nat, x = 0 := ⟨0, rfl⟩
  go_enter Try.func65, Try.ntmps65
  go_wp2_with (first
    | (have hh := mk0; clear hh; at_builtin; refine wpList_append_sl rfl (.tmp 25) (.tmp 26) 83 rfl fits83G (Own.empty u64C 28 w (fun b => w.heap.size ≤ b)) rfl (by simp) (Hq.out.alloc _) rfl (fun i hi cs hc => hc) (by simp; omega) (by decide) ?_; intro v1 w1 g1 g2 g3; rw [List.nil_append] at g1; obtain ⟨A1, k1, m1, rfl⟩ := g1.form0; have G1 := Lib.hid g1; have X1 := Lib.hid ((Ext.alloc1 w _).then g2 (fun b hb e => by simp [Value.ownBlock] at e; omega)); have hz1 := X1.out.size; have hz1b := g2.size; simp only [World.size_alloc] at hz1b; clear g1 g2 g3 mk0)
    | (at_builtin; refine wpList_append_one rfl (.tmp 27) (.tmp 28) 83 rfl fits83G (G1.out.ext (Ext.alloc1 _ _)) rfl (by (try simp only [World.size_alloc]); omega) (blk_new _ _) rfl maxSeq rfl (by omega) (by decide) ?_; intro v2 w2 g1 g2 g3; rw [← Hqs2.out] at g1; obtain ⟨A2, cap2, rfl, -⟩ := g1.form; have HQ2 := Lib.hid (g1.sl (G := fun b => b < w2.heap.size) (by decide) (by show _ ≤ 140737488355328; omega) (fun b _ hl => hl) (fun b _ hl => hl)); have X2 := Lib.hid ((X1.out.alloc _).then g2 (fun b hb e => by have := (G1.out.lt _ e).1; omega)); clear g1 g2 g3))
  go_loopw [11, 12] (fun s11 s12 wr => ∃ k : Nat, k ≤ l.length ∧ s12 = .int .i64 ((k : Int) - 1) ∧ Sl entC wr (fun b => b < wr.heap.size) s11 (refK l L bottom (qs2.map (·.toNat)) k) ∧ Ext w2 wr) (fun _ s12 _ => (intOf s12 + 1).toNat)
  case atStart => exact ⟨l.length, Nat.le_refl _, rfl, by rw [refK_last]; exact Sl.nil _ _ _, Out.refl _ _⟩
  case round =>
    obtain ⟨wo, rfl⟩ : ∃ x : World, x = wr := ⟨_, rfl⟩
    obtain ⟨k, hk, hs12, hsl, hxo⟩ := hrel
    have HXo := Lib.hid hxo
    have HX := Lib.hid (X2.out.ext hxo)
    rcases Nat.eq_zero_or_pos k with hk0 | hkp
    · rw [hk0] at hs12 hsl
      obtain rfl : _ = Value.int .i64 (-1) := hs12
      rw [refK_zero] at hsl
      obtain ⟨K, hK⟩ : ∃ K, keepE l L bottom (qs2.map (·.toNat)) = K := ⟨_, rfl⟩
      rw [hK] at hsl
      have hKl : K.length ≤ 1000 := by rw [← hK]; exact Nat.le_trans keepE_sub.length_le hl1
      have HK := Lib.hid hK
      obtain ⟨Y, cY, rfl, -⟩ := hsl.form
      have Hsl := Lib.hid hsl
      have hwo := HX.out.size
      clear hk0 hk hsl hK
      as_aux_lemma =>
        go_wp2
        go_loopw [19, 133] (fun s19 s133 wr => ∃ i : Nat, i ≤ L.length ∧ s133 = .int .i64 i ∧ Own spanC 92 wr wo.heap.size (fun b => b < w.heap.size) s19 ((L.take i).filter fun s => !bottom || needsE K s) ∧ Ext wo wr) (fun _ s133 _ => L.length - (intOf s133).toNat)
        case atStart => exact ⟨0, Nat.zero_le _, rfl, Own.nil _ _ _ _ _, Out.refl _ _⟩
        case round =>
          obtain ⟨wp, rfl⟩ : ∃ x : World, x = wr := ⟨_, rfl⟩
          obtain ⟨i, hi, rfl, hown, hxp⟩ := hrel
          obtain ⟨A6, n6, c6, rfl⟩ := hown.form0
          have HXp := Lib.hid hxp
          have Hown := Lib.hid hown
          have Hlt := Lib.hid hown.lt
          have hzp := hxp.size
          clear hxp hown
          by_cases hlt : i < L.length
          · obtain ⟨b1, o1, u1, v1, rfl, -, c0, c1, c2, hu, hv⟩ := (Hs.out.ext (HX.out.ext HXp.out)).span i hlt
            obtain ⟨U1, N1, n1, rfl⟩ := hu.form0
            obtain ⟨V1, M1, m1, rfl⟩ := hv.form0
            have Hsn : Hid ((L.take (i + 1)).filter (fun s => !bottom || needsE K s) = (L.take i).filter (fun s => !bottom || needsE K s) ++ if (!bottom || needsE K L[i]) = true then [L[i]] else []) := Lib.hid (by
              rw [List.take_succ_eq_append_getElem hlt, List.filter_append]
              congr 1
              by_cases h : (!bottom || needsE K L[i]) = true <;> simp [h])
            have hfl := List.length_filter_le (fun s => !bottom || needsE K s) (L.take i)
            rw [List.length_take] at hfl
            have x1 := Ext.alloc1 wp (.cells #[.slice U1 N1 n1, .slice V1 M1 m1, u64V L[i].seq] 92)
            have HZ := Lib.hid (blk_new wp (.cells #[.slice U1 N1 n1, .slice V1 M1 m1, u64V L[i].seq] 92))
            have Hu := Lib.hid (hu.ext x1)
            have Hv := Lib.hid (hv.ext x1)
            have X1 := Lib.hid x1
            have hi0 : (0 : Int) ≤ (i : Int) := by omega
            have hi1 : (i : Int) < (L.length : Int) := by omega
            obtain ⟨R, hR⟩ : ∃ R, (L.take i).filter (fun s => !bottom || needsE K s) = R := ⟨_, rfl⟩
            rw [hR] at Hown Hsn hfl
            obtain ⟨s, hs⟩ : ∃ s, L[i] = s := ⟨_, rfl⟩
            rw [hs] at c2 Hsn HZ Hu Hv X1
            have hnn : ((K.take 0).any (needs1 s)) = false := rfl
            clear hu hv x1 hR hs
            go_wp2
            go_loopw [22, 141] (fun s22 s141 wi => ∃ j : Nat, j ≤ K.length ∧ s141 = .int .i64 j ∧ s22 = .bool (!bottom || (K.take j).any (needs1 s)) ∧ Ext (wp.alloc (.cells #[.slice U1 N1 n1, .slice V1 M1 m1, u64V s.seq] 92)) wi) (fun _ s141 _ => K.length - (intOf s141).toNat)
            case atStart => exact ⟨0, Nat.zero_le _, rfl, (by rw [hnn, Bool.or_false]), Out.refl _ _⟩
            case round =>
              obtain ⟨wj, rfl⟩ : ∃ x : World, x = wr := ⟨_, rfl⟩
              obtain ⟨j, hj, rfl, rfl, hxj⟩ := hrel
              have HXj := Lib.hid hxj
              have HZj := Lib.hid (hxj.blk HZ.out (fun f => f))
              obtain ⟨z0, z1, z2, -⟩ := cells3 HZj.out
              have hzj := hxj.size
              simp only [World.size_alloc] at hzj
              clear hxj
              obtain ⟨nd, hnd⟩ : ∃ nd, (!bottom || (K.take j).any (needs1 s)) = nd := ⟨_, rfl⟩
              by_cases hltj : j < K.length
              · have Hnext := Lib.hid (any_take (needs1 s) hltj)
                obtain ⟨b2, o2, u2, v2, hY, -, d0, d1, d2, d3, hu2, hv2⟩ := (Hsl.out.ext (HXp.out.ext (X1.out.ext HXj.out))).ent j hltj
                subst hY
                obtain ⟨U2, N2, n2, rfl⟩ := hu2.form0
                obtain ⟨V2, M2, m2, rfl⟩ := hv2.form0
                obtain ⟨e, he⟩ : ∃ e, K[j] = e := ⟨_, rfl⟩
                rw [he] at d1 d2 hu2 hv2 Hnext
                have x5 := Ext.alloc1 wj (.cells #[.slice U2 N2 n2, u64V e.key.seq, byteV e.key.kind, .slice V2 M2 m2] 32)
                have y0 := cell_alloc z0 (.cells #[.slice U2 N2 n2, u64V e.key.seq, byteV e.key.kind, .slice V2 M2 m2] 32)
                have y1 := cell_alloc z1 (.cells #[.slice U2 N2 n2, u64V e.key.seq, byteV e.key.kind, .slice V2 M2 m2] 32)
                have y2 := cell_alloc z2 (.cells #[.slice U2 N2 n2, u64V e.key.seq, byteV e.key.kind, .slice V2 M2 m2] 32)
                obtain ⟨t0, t1, t2, t3, -⟩ := cells4 (blk_new wj (.cells #[.slice U2 N2 n2, u64V e.key.seq, byteV e.key.kind, .slice V2 M2 m2] 32))
                have HC := Lib.hid (r9_covers (wj.alloc (.cells #[.slice U2 N2 n2, u64V e.key.seq, byteV e.key.kind, .slice V2 M2 m2] 32)) s e.key.user ((Hu.out.ext HXj.out).ext x5) ((Hv.out.ext HXj.out).ext x5) (hu2.ext x5))
                have Hn1 : Hid (needs1 s e = (decide (e.key.seq.toNat < s.seq.toNat) && coversB s e.key.user)) := Lib.hid rfl
                have X5 := Lib.hid (HXj.out.ext x5)
                have hj0 : (0 : Int) ≤ (j : Int) := by omega
                have hj1 : (j : Int) < (K.length : Int) := by omega
                have Hnx2 : Hid ((!bottom || (K.take (j + 1)).any (needs1 s)) = (nd || needs1 s e)) := Lib.hid (by rw [Hnext.out, ← Bool.or_assoc, hnd])
                rw [hnd]
                clear he hu2 hv2 x5 hnd Hnext hnn
                cases nd with
                | true =>
                  go_wp2
                  go_roundw
                  case rel => exact ⟨j + 1, by omega, by go_num, (by rw [Hnx2.out]; rfl), X5.out⟩
                  case measure => simp [intOf] <;> omega
                | false =>
                  by_cases hsq : e.key.seq.toNat < s.seq.toNat
                  · have hsqi : ((e.key.seq.toNat : Nat) : Int) < ((s.seq.toNat : Nat) : Int) := by omega
                    have Hn2 : Hid (needs1 s e = coversB s e.key.user) := Lib.hid (by rw [Hn1.out, decide_eq_true hsq, Bool.true_and])
                    obtain ⟨cb, hcb⟩ : ∃ cb, coversB s e.key.user = cb := ⟨_, rfl⟩
                    rw [hcb] at Hn2 HC
                    clear hsq hcb Hn1
                    go_wp2_with (go_at_call 130; refine HC.out.mono ?_; rintro r w6 ⟨rfl, hx6⟩; have HX6 := Lib.hid (X5.out.ext hx6); clear hx6)
                    go_roundw
                    case rel => exact ⟨j + 1, by omega, by go_num, (by rw [Hnx2.out, Hn2.out]; try rfl), HX6.out⟩
                    case measure => simp [intOf] <;> omega
                  · have hsqi : ¬ ((e.key.seq.toNat : Nat) : Int) < ((s.seq.toNat : Nat) : Int) := by omega
                    have Hn2 : Hid (needs1 s e = false) := Lib.hid (by rw [Hn1.out, decide_eq_false hsq, Bool.false_and])
                    clear hsq Hn1
                    go_wp2
                    go_roundw
                    case rel => exact ⟨j + 1, by omega, by go_num, (by rw [Hnx2.out, Hn2.out]; rfl), X5.out⟩
                    case measure => simp [intOf] <;> omega
              · obtain rfl : j = K.length := by omega
                have Hsn2 : Hid ((L.take (i + 1)).filter (fun s => !bottom || needsE K s) = R ++ if nd = true then [s] else []) := Lib.hid (by
                  rw [Hsn.out, ← hnd, List.take_length, needsE_any])
                rw [hnd]
                have HXe := Lib.hid (HXp.out.ext (X1.out.ext HXj.out))
                have HuK := Lib.hid (Hu.out.ext HXj.out)
                have HvK := Lib.hid (Hv.out.ext HXj.out)
                clear hnd Hsn hnn
                cases nd with
                | false =>
                  have Hsn3 := Lib.hid (Hsn2.out.trans (by rw [if_neg (by decide), List.append_nil]))
                  clear Hsn2
                  go_wp2
                  go_roundw
                  case rel => exact ⟨i + 1, by omega, by go_num, (by rw [Hsn3.out]; exact Hown.out.ext (X1.out.ext HXj.out)), HXe.out⟩
                  case measure => simp [intOf] <;> omega
                | true =>
                  have Hsn3 := Lib.hid (Hsn2.out.trans (by rw [if_pos rfl]))
                  clear Hsn2
                  go_wp2_with (at_builtin; refine wpList_append_one rfl (.tmp 163) (.tmp 165) 82 rfl fits92 ((Hown.out.ext (X1.out.ext HXj.out)).ext (Ext.alloc1 _ _)) rfl (by (try simp only [World.size_alloc]); omega) (blk_new _ _) rfl s ⟨_, _, rfl, (HuK.out.alloc _).mono (fun b hb _ => ⟨hH b hb, fun e => by have := (Hlt.out _ e).1; have := hH b hb; omega⟩) (.inl (by decide)), (HvK.out.alloc _).mono (fun b hb _ => ⟨hH b hb, fun e => by have := (Hlt.out _ e).1; have := hH b hb; omega⟩) (.inl (by decide))⟩ (by omega) (by decide) ?_; intro v4 w4 g1 g2 g3; obtain ⟨S4, n4, c4, rfl⟩ := g1.form0; have HG4 := Lib.hid g1; have HP4 := Lib.hid g2; clear g1 g2 g3)
                  go_roundw
                  case rel => exact ⟨i + 1, by omega, by go_num, (by rw [Hsn3.out]; exact HG4.out), (HXe.out.alloc _).then HP4.out (fun b hb e => by have := (Hlt.out b e).1; omega)⟩
                  case measure => simp [intOf] <;> omega
          · obtain rfl : i = L.length := by omega
            rw [List.take_length] at Hown
            have hfl := List.length_filter_le (fun s => !bottom || needsE K s) L
            have HlE : Hid (leftE K L bottom = L.filter fun s => !bottom || needsE K s) := Lib.hid (by
              unfold leftE
              cases bottom with
              | false =>
                show L = L.filter (fun s => !false || needsE K s)
                exact (List.filter_eq_self.2 fun s _ => rfl).symm
              | true => simp)
            go_wp2
            refine bodyPost_ret (v := .tuple #[.slice Y K.length cY, .slice A6 n6 c6]) (by simp [results, Try.results65, go_sem]) rfl ?_
            rw [HK.out, HlE.out]
            exact ⟨_, _, rfl, HX.out.ext HXp.out, (Hsl.out.ext HXp.out).mono (fun b hb hl => hl) (.inl (by decide)), Hown.out.sl (by decide) (by show _ ≤ 140737488355328; omega) (fun b hb hl => hl) (fun b hb hl => hl)⟩
    · obtain ⟨i, hi⟩ : ∃ i, k = i + 1 := ⟨k - 1, by omega⟩
      rw [hi] at hs12 hsl hk
      obtain rfl : _ = Value.int .i64 (i : Int) := hs12.trans (by congr 1; omega)
      clear hi hs12 hkp
      as_aux_lemma =>
        obtain ⟨b1, o1, u1, v1, rfl, -, c0, c1, c2, c3, hu, hv⟩ := (Hx.out.ext HX.out).ent i hk
        obtain ⟨U1, N1, n1, rfl⟩ := hu.form0
        obtain ⟨V1, M1, m1, rfl⟩ := hv.form0
        have Hsaw0 : Hid (i = 0 → ∀ q, sawB l l[i] q = decide (l[i].key.seq.toNat ≤ q.toNat)) := Lib.hid fun h q => by subst h; exact saw_zero Hsort.out hk q
        have Hsaw1 : Hid (∀ p (hp : p < l.length), i = p + 1 → ∀ q, sawB l l[i] q = (decide (l[i].key.seq.toNat ≤ q.toNat) && (!(l[p].key.user == l[i].key.user) || decide (q.toNat < l[p].key.seq.toNat)))) := Lib.hid fun p hp h q => by subst h; exact saw_succ Hsort.out hk q
        have Hst := Lib.hid (stays_any l L qs2 l[i])
        have Hno := Lib.hid (fun h => refK_no (L := L) (bottom := bottom) (qs := qs2.map (·.toNat)) hk h)
        have Hbare := Lib.hid (fun h => refK_bare (L := L) (bottom := bottom) (qs := qs2.map (·.toNat)) hk h)
        have Hyes := Lib.hid (fun h => refK_yes (L := L) (bottom := bottom) (qs := qs2.map (·.toNat)) hk h)
        have hKl := refK_len (l := l) (L := L) (bottom := bottom) (qs := qs2.map (·.toNat)) (i := i + 1)
        have HZ := Lib.hid (blk_new wo (.cells #[.slice U1 N1 n1, u64V l[i].key.seq, byteV l[i].key.kind, .slice V1 M1 m1] 32))
        have x3 := Ext.alloc1 wo (.cells #[.slice U1 N1 n1, u64V l[i].key.seq, byteV l[i].key.kind, .slice V1 M1 m1] 32)
        have hzo := HX.out.size
        have Hu := Lib.hid (hu.ext x3)
        have Hv := Lib.hid (hv.ext x3)
        have HX3 := Lib.hid (HX.out.ext x3)
        have HXo3 := Lib.hid (HXo.out.ext x3)
        have HK := Lib.hid (hsl.ext x3)
        obtain ⟨Kr, hKr⟩ : ∃ Kr, refK l L bottom (qs2.map (·.toNat)) (i + 1) = Kr := ⟨_, rfl⟩
        rw [hKr] at Hno Hbare Hyes HK hKl
        obtain ⟨Kn, hKn⟩ : ∃ Kn, refK l L bottom (qs2.map (·.toNat)) i = Kn := ⟨_, rfl⟩
        rw [hKn] at Hno Hbare Hyes
        have HKn := Lib.hid hKn
        obtain ⟨Y, cY, rfl, -⟩ := HK.out.form
        have hi0 : (0 : Int) ≤ (i : Int) := by omega
        have hi1 : (i : Int) < (l.length : Int) := by omega
        have hwi : IntKind.i64.wrap ((i : Int) - 1) = (i : Int) - 1 := by rw [IntKind.wrap_i64]; omega
        have hq2i : (qs2.length : Int) ≤ 1000 := by omega
        obtain ⟨e, he⟩ : ∃ e, l[i] = e := ⟨_, rfl⟩
        rw [he] at c1 c2 Hsaw0 Hsaw1 Hst Hno Hbare Hyes HZ Hu Hv HX3 HXo3 HK
        clear hu hv hsl hxo x3 hKr hKn he
        go_wp2
        go_loopw [14, 43] (fun s14 s43 wi => ∃ j : Nat, j ≤ qs2.length ∧ s43 = .int .i64 j ∧ s14 = .bool ((qs2.take j).any (stayB l L e)) ∧ Ext (wo.alloc (.cells #[.slice U1 N1 n1, u64V e.key.seq, byteV e.key.kind, .slice V1 M1 m1] 32)) wi) (fun _ s43 _ => qs2.length - (intOf s43).toNat)
        case atStart => exact ⟨0, Nat.zero_le _, rfl, rfl, Out.refl _ _⟩
        case round =>
          obtain ⟨wj, rfl⟩ : ∃ x : World, x = wr := ⟨_, rfl⟩
          obtain ⟨j, hj, rfl, rfl, hxj⟩ := hrel
          have HXj := Lib.hid hxj
          have HZj := Lib.hid (hxj.blk HZ.out (fun f => f))
          obtain ⟨z0, z1, z2, z3, -⟩ := cells4 HZj.out
          have Huj := Lib.hid (Hu.out.ext hxj)
          have hzj := hxj.size
          simp only [World.size_alloc] at hzj
          clear hxj
          by_cases hlt : j < qs2.length
          · obtain ⟨bq, oq, hA2, cq⟩ := (HQ2.out.ext (HXo3.out.ext HXj.out)).numG j hlt
            have Hnext := Lib.hid (any_take (stayB l L e) hlt)
            obtain ⟨st, hst⟩ : ∃ st, (qs2.take j).any (stayB l L e) = st := ⟨_, rfl⟩
            simp only [hst] at *
            obtain ⟨q, hq⟩ : ∃ q, qs2[j] = q := ⟨_, rfl⟩
            rw [hq] at cq Hnext
            subst hA2
            clear hst hq
            go_upto_region 11 with (fail)
            go_cut [17] (fun s17 wx => s17 = .bool (sawB l e q) ∧ Ext wj wx)
            case first =>
              by_cases hq : e.key.seq.toNat ≤ q.toNat
              · have hqi : ((e.key.seq.toNat : Nat) : Int) ≤ ((q.toNat : Nat) : Int) := by omega
                rcases Nat.eq_zero_or_pos i with h0 | hp
                · have Hsw := Lib.hid ((Hsaw0.out h0 q).trans (decide_eq_true hq))
                  have hib : ((i : Int) == 0) = true := by rw [beq_iff_eq]; omega
                  clear h0 hq
                  refine region_B 99 (fun w' => w'.cell? ⟨wo.heap.size, 0, none⟩ = some (.slice U1 N1 n1) ∧ w'.cell? ⟨wo.heap.size, 1, none⟩ = some (u64V e.key.seq)) (by kernel_rfl) ?q65_11S (fun hHeld0 => ?_)
                  case q65_11S => ((first | go_keep | ((try dsimp only); exact ⟨by assumption, by assumption⟩)))
                  refine anyB_take (i := 0) (oi := _) (v := ?q65_11v1) rfl (by kernel_rfl) (by kernel_rfl) (by kernel_rfl) (by kernel_rfl) (fun _ _ _ h => h) (Or.inl ⟨by rfl, ?q65_11h1⟩) (by assumption) ?q65_11r1
                  case q65_11h1 => (intro w hSw; (try dsimp only at hSw); go_simp; try with_reducible rfl)
                  (try simp only [List.getElem_toArray, List.getElem_cons_zero, Act.put, List.setIfInBounds_toArray, List.set_cons_zero, List.set_cons_succ])
                  refine anyB_take (i := 1) (oi := _) (v := ?q65_11v2) rfl (by kernel_rfl) (by kernel_rfl) (by kernel_rfl) (by kernel_rfl) (fun _ _ _ h => h) (Or.inl ⟨by rfl, ?q65_11h2⟩) (by assumption) ?q65_11r2
                  case q65_11h2 => (intro w hSw; (try dsimp only at hSw); go_simp; try with_reducible rfl)
                  (try simp only [List.getElem_toArray, List.getElem_cons_succ, List.getElem_cons_zero, Act.put, List.setIfInBounds_toArray, List.set_cons_zero, List.set_cons_succ])
                  refine anyB_take (i := 2) (oi := _) (v := ?q65_11v3) rfl (by kernel_rfl) (by kernel_rfl) (by kernel_rfl) (by kernel_rfl) (fun _ _ _ h => h) (Or.inl ⟨by rfl, ?q65_11h3⟩) (by assumption) ?q65_11r3
                  case q65_11h3 => (intro w hSw; (try dsimp only at hSw); go_simp; try with_reducible rfl)
                  (try simp only [List.getElem_toArray, List.getElem_cons_succ, List.getElem_cons_zero, Act.put, List.setIfInBounds_toArray, List.set_cons_zero, List.set_cons_succ])
                  refine anyB_take (i := 3) (oi := _) (v := ?q65_11v4) rfl (by kernel_rfl) (by kernel_rfl) (by kernel_rfl) (by kernel_rfl) (fun _ _ _ h => h) (Or.inl ⟨by rfl, ?q65_11h4⟩) (by assumption) ?q65_11r4
                  case q65_11h4 => (intro w hSw; (try dsimp only at hSw); go_simp; try with_reducible rfl)
                  (try simp only [List.getElem_toArray, List.getElem_cons_succ, List.getElem_cons_zero, Act.put, List.setIfInBounds_toArray, List.set_cons_zero, List.set_cons_succ])
                  refine anyB_take (i := 4) (oi := _) (v := ?q65_11v5) rfl (by kernel_rfl) (by kernel_rfl) (by kernel_rfl) (by kernel_rfl) (fun _ _ _ h => h) (Or.inl ⟨by rfl, ?q65_11h5⟩) (by assumption) ?q65_11r5
                  case q65_11h5 => (intro w hSw; (try dsimp only at hSw); go_simp; try with_reducible rfl)
                  (try simp only [List.getElem_toArray, List.getElem_cons_succ, List.getElem_cons_zero, Act.put, List.setIfInBounds_toArray, List.set_cons_zero, List.set_cons_succ])
                  refine anyB_take (i := 5) (oi := _) (v := ?q65_11v6) rfl (by kernel_rfl) (by kernel_rfl) (by kernel_rfl) (by kernel_rfl) (fun _ _ _ h => h) (Or.inl ⟨by rfl, ?q65_11h6⟩) (by assumption) ?q65_11r6
                  case q65_11h6 => (intro w hSw; (try dsimp only at hSw); go_simp; try with_reducible rfl)
                  (try simp only [List.getElem_toArray, List.getElem_cons_succ, List.getElem_cons_zero, Act.put, List.setIfInBounds_toArray, List.set_cons_zero, List.set_cons_succ])
                  refine anyB_take (i := 6) (oi := _) (v := ?q65_11v7) rfl (by kernel_rfl) (by kernel_rfl) (by kernel_rfl) (by kernel_rfl) (fun _ _ _ h => h) (Or.inl ⟨by rfl, ?q65_11h7⟩) (by assumption) ?q65_11r7
                  case q65_11h7 => (intro w hSw; (try dsimp only at hSw); go_simp; try with_reducible rfl)
                  (try simp only [List.getElem_toArray, List.getElem_cons_succ, List.getElem_cons_zero, Act.put, List.setIfInBounds_toArray, List.set_cons_zero, List.set_cons_succ])
                  refine anyB_take (i := 7) (oi := _) (v := ?q65_11v8) rfl (by kernel_rfl) (by kernel_rfl) (by kernel_rfl) (by kernel_rfl) (fun _ _ _ h => h) (Or.inl ⟨by rfl, ?q65_11h8⟩) (by assumption) ?q65_11r8
                  case q65_11h8 => (intro w hSw; (try dsimp only at hSw); go_simp; try with_reducible rfl)
                  (try simp only [List.getElem_toArray, List.getElem_cons_succ, List.getElem_cons_zero, Act.put, List.setIfInBounds_toArray, List.set_cons_zero, List.set_cons_succ])
                  refine anyB_take (i := 8) (oi := _) (v := ?q65_11v9) rfl (by kernel_rfl) (by kernel_rfl) (by kernel_rfl) (by kernel_rfl) (fun _ _ _ h => h) (Or.inl ⟨by rfl, ?q65_11h9⟩) (by assumption) ?q65_11r9
                  case q65_11h9 => (intro w hSw; (try dsimp only at hSw); go_simp; try with_reducible rfl)
                  (try simp only [List.getElem_toArray, List.getElem_cons_succ, List.getElem_cons_zero, Act.put, List.setIfInBounds_toArray, List.set_cons_zero, List.set_cons_succ])
                  refine anyB_take (i := 9) (oi := _) (v := undef) rfl (by kernel_rfl) (by kernel_rfl) (by kernel_rfl) (by kernel_rfl) (fun _ _ _ h => h) (Or.inr ⟨by rfl, rfl⟩) (by assumption) ?q65_11r10
                  (try simp only [List.getElem_toArray, List.getElem_cons_succ, List.getElem_cons_zero, Act.put, List.setIfInBounds_toArray, List.set_cons_zero, List.set_cons_succ])
                  refine anyB_take (i := 10) (oi := _) (v := undef) rfl (by kernel_rfl) (by kernel_rfl) (by kernel_rfl) (by kernel_rfl) (fun _ _ _ h => h) (Or.inr ⟨by rfl, rfl⟩) (by assumption) ?q65_11r11
                  (try simp only [List.getElem_toArray, List.getElem_cons_succ, List.getElem_cons_zero, Act.put, List.setIfInBounds_toArray, List.set_cons_zero, List.set_cons_succ])
                  refine anyB_take (i := 11) (oi := _) (v := undef) rfl (by kernel_rfl) (by kernel_rfl) (by kernel_rfl) (by kernel_rfl) (fun _ _ _ h => h) (Or.inr ⟨by rfl, rfl⟩) (by assumption) ?q65_11r12
                  (try simp only [List.getElem_toArray, List.getElem_cons_succ, List.getElem_cons_zero, Act.put, List.setIfInBounds_toArray, List.set_cons_zero, List.set_cons_succ])
                  refine anyB_take (i := 12) (oi := _) (v := undef) rfl (by kernel_rfl) (by kernel_rfl) (by kernel_rfl) (by kernel_rfl) (fun _ _ _ h => h) (Or.inr ⟨by rfl, rfl⟩) (by assumption) ?q65_11r13
                  (try simp only [List.getElem_toArray, List.getElem_cons_succ, List.getElem_cons_zero, Act.put, List.setIfInBounds_toArray, List.set_cons_zero, List.set_cons_succ])
                  refine anyB_take (i := 13) (oi := _) (v := undef) rfl (by kernel_rfl) (by kernel_rfl) (by kernel_rfl) (by kernel_rfl) (fun _ _ _ h => h) (Or.inr ⟨by rfl, rfl⟩) (by assumption) ?q65_11r14
                  (try simp only [List.getElem_toArray, List.getElem_cons_succ, List.getElem_cons_zero, Act.put, List.setIfInBounds_toArray, List.set_cons_zero, List.set_cons_succ])
                  refine anyB_take (i := 14) (oi := _) (v := undef) rfl (by kernel_rfl) (by kernel_rfl) (by kernel_rfl) (by kernel_rfl) (fun _ _ _ h => h) (Or.inr ⟨by rfl, rfl⟩) (by assumption) ?q65_11r15
                  (try simp only [List.getElem_toArray, List.getElem_cons_succ, List.getElem_cons_zero, Act.put, List.setIfInBounds_toArray, List.set_cons_zero, List.set_cons_succ])
                  refine anyB_take (i := 15) (oi := _) (v := undef) rfl (by kernel_rfl) (by kernel_rfl) (by kernel_rfl) (by kernel_rfl) (fun _ _ _ h => h) (Or.inr ⟨by rfl, rfl⟩) (by assumption) ?q65_11r16
                  (try simp only [List.getElem_toArray, List.getElem_cons_succ, List.getElem_cons_zero, Act.put, List.setIfInBounds_toArray, List.set_cons_zero, List.set_cons_succ])
                  refine anyB_take (i := 16) (oi := _) (v := undef) rfl (by kernel_rfl) (by kernel_rfl) (by kernel_rfl) (by kernel_rfl) (fun _ _ _ h => h) (Or.inr ⟨by rfl, rfl⟩) (by assumption) ?q65_11r17
                  (try simp only [List.getElem_toArray, List.getElem_cons_succ, List.getElem_cons_zero, Act.put, List.setIfInBounds_toArray, List.set_cons_zero, List.set_cons_succ])
                  refine anyB_take (i := 17) (oi := _) (v := undef) rfl (by kernel_rfl) (by kernel_rfl) (by kernel_rfl) (by kernel_rfl) (fun _ _ _ h => h) (Or.inr ⟨by rfl, rfl⟩) (by assumption) ?q65_11r18
                  (try simp only [List.getElem_toArray, List.getElem_cons_succ, List.getElem_cons_zero, Act.put, List.setIfInBounds_toArray, List.set_cons_zero, List.set_cons_succ])
                  refine anyB_take (i := 18) (oi := _) (v := undef) rfl (by kernel_rfl) (by kernel_rfl) (by kernel_rfl) (by kernel_rfl) (fun _ _ _ h => h) (Or.inr ⟨by rfl, rfl⟩) (by assumption) ?q65_11r19
                  (try simp only [List.getElem_toArray, List.getElem_cons_succ, List.getElem_cons_zero, Act.put, List.setIfInBounds_toArray, List.set_cons_zero, List.set_cons_succ])
                  refine anyB_step (i := 19) (o := _) (by kernel_rfl) (by rfl) (by (simp only [List.getElem?_toArray, List.getElem?_cons_succ, List.getElem?_cons_zero] <;> rfl)) (fun K hK => ?_)
                  refine Eq.mpr (if_neg ?q65_11w20) ?_
                  case q65_11w20 => (intro hw; exact absurd (show false = true from hw) (by decide))
                  refine hK.out _ _ ?q65_11S20 (fun hHeld1 => ?_)
                  case q65_11S20 => ((first | go_keep | ((try dsimp only); exact ⟨by assumption, by assumption⟩)))
                  clear hK K hHeld0
                  (try simp only [Act.put, List.setIfInBounds_toArray, List.set_cons_zero, List.set_cons_succ])
                  refine anyB_take (i := 20) (oi := _) (v := undef) rfl (by kernel_rfl) (by kernel_rfl) (by kernel_rfl) (by kernel_rfl) (fun _ _ _ h => h) (Or.inr ⟨by rfl, rfl⟩) (by assumption) ?q65_11r21
                  (try simp only [List.getElem_toArray, List.getElem_cons_succ, List.getElem_cons_zero, Act.put, List.setIfInBounds_toArray, List.set_cons_zero, List.set_cons_succ])
                  refine anyB_take (i := 21) (oi := _) (v := ?q65_11v22) rfl (by kernel_rfl) (by kernel_rfl) (by kernel_rfl) (by kernel_rfl) (fun _ _ _ h => h) (Or.inl ⟨by rfl, ?q65_11h22⟩) (by assumption) ?q65_11r22
                  case q65_11h22 => (intro w hSw; (try dsimp only at hSw); go_simp; try with_reducible rfl)
                  (try simp only [List.getElem_toArray, List.getElem_cons_succ, List.getElem_cons_zero, Act.put, List.setIfInBounds_toArray, List.set_cons_zero, List.set_cons_succ])
                  refine anyB_take (i := 22) (oi := _) (v := ?q65_11v23) rfl (by kernel_rfl) (by kernel_rfl) (by kernel_rfl) (by kernel_rfl) (fun _ _ _ h => h) (Or.inl ⟨by rfl, ?q65_11h23⟩) (by assumption) ?q65_11r23
                  case q65_11h23 => (intro w hSw; (try dsimp only at hSw); go_simp; try with_reducible rfl)
                  (try simp only [List.getElem_toArray, List.getElem_cons_succ, List.getElem_cons_zero, Act.put, List.setIfInBounds_toArray, List.set_cons_zero, List.set_cons_succ])
                  refine anyB_take (i := 23) (oi := _) (v := undef) rfl (by kernel_rfl) (by kernel_rfl) (by kernel_rfl) (by kernel_rfl) (fun _ _ _ h => h) (Or.inr ⟨by rfl, rfl⟩) (by assumption) ?q65_11r24
                  (try simp only [List.getElem_toArray, List.getElem_cons_succ, List.getElem_cons_zero, Act.put, List.setIfInBounds_toArray, List.set_cons_zero, List.set_cons_succ])
                  refine anyB_take (i := 24) (oi := _) (v := undef) rfl (by kernel_rfl) (by kernel_rfl) (by kernel_rfl) (by kernel_rfl) (fun _ _ _ h => h) (Or.inr ⟨by rfl, rfl⟩) (by assumption) ?q65_11r25
                  (try simp only [List.getElem_toArray, List.getElem_cons_succ, List.getElem_cons_zero, Act.put, List.setIfInBounds_toArray, List.set_cons_zero, List.set_cons_succ])
                  refine anyB_take (i := 25) (oi := _) (v := undef) rfl (by kernel_rfl) (by kernel_rfl) (by kernel_rfl) (by kernel_rfl) (fun _ _ _ h => h) (Or.inr ⟨by rfl, rfl⟩) (by assumption) ?q65_11r26
                  (try simp only [List.getElem_toArray, List.getElem_cons_succ, List.getElem_cons_zero, Act.put, List.setIfInBounds_toArray, List.set_cons_zero, List.set_cons_succ])
                  refine anyB_take (i := 26) (oi := _) (v := undef) rfl (by kernel_rfl) (by kernel_rfl) (by kernel_rfl) (by kernel_rfl) (fun _ _ _ h => h) (Or.inr ⟨by rfl, rfl⟩) (by assumption) ?q65_11r27
                  (try simp only [List.getElem_toArray, List.getElem_cons_succ, List.getElem_cons_zero, Act.put, List.setIfInBounds_toArray, List.set_cons_zero, List.set_cons_succ])
                  refine anyB_take (i := 27) (oi := _) (v := undef) rfl (by kernel_rfl) (by kernel_rfl) (by kernel_rfl) (by kernel_rfl) (fun _ _ _ h => h) (Or.inr ⟨by rfl, rfl⟩) (by assumption) ?q65_11r28
                  (try simp only [List.getElem_toArray, List.getElem_cons_succ, List.getElem_cons_zero, Act.put, List.setIfInBounds_toArray, List.set_cons_zero, List.set_cons_succ])
                  refine anyB_take (i := 28) (oi := _) (v := undef) rfl (by kernel_rfl) (by kernel_rfl) (by kernel_rfl) (by kernel_rfl) (fun _ _ _ h => h) (Or.inr ⟨by rfl, rfl⟩) (by assumption) ?q65_11r29
                  (try simp only [List.getElem_toArray, List.getElem_cons_succ, List.getElem_cons_zero, Act.put, List.setIfInBounds_toArray, List.set_cons_zero, List.set_cons_succ])
                  refine anyB_take (i := 29) (oi := _) (v := undef) rfl (by kernel_rfl) (by kernel_rfl) (by kernel_rfl) (by kernel_rfl) (fun _ _ _ h => h) (Or.inr ⟨by rfl, rfl⟩) (by assumption) ?q65_11r30
                  (try simp only [List.getElem_toArray, List.getElem_cons_succ, List.getElem_cons_zero, Act.put, List.setIfInBounds_toArray, List.set_cons_zero, List.set_cons_succ])
                  refine anyB_take (i := 30) (oi := _) (v := undef) rfl (by kernel_rfl) (by kernel_rfl) (by kernel_rfl) (by kernel_rfl) (fun _ _ _ h => h) (Or.inr ⟨by rfl, rfl⟩) (by assumption) ?q65_11r31
                  (try simp only [List.getElem_toArray, List.getElem_cons_succ, List.getElem_cons_zero, Act.put, List.setIfInBounds_toArray, List.set_cons_zero, List.set_cons_succ])
                  refine anyB_take (i := 31) (oi := _) (v := undef) rfl (by kernel_rfl) (by kernel_rfl) (by kernel_rfl) (by kernel_rfl) (fun _ _ _ h => h) (Or.inr ⟨by rfl, rfl⟩) (by assumption) ?q65_11r32
                  (try simp only [List.getElem_toArray, List.getElem_cons_succ, List.getElem_cons_zero, Act.put, List.setIfInBounds_toArray, List.set_cons_zero, List.set_cons_succ])
                  refine anyB_take (i := 32) (oi := _) (v := ?q65_11v33) rfl (by kernel_rfl) (by kernel_rfl) (by kernel_rfl) (by kernel_rfl) (fun _ _ _ h => h) (Or.inl ⟨by rfl, ?q65_11h33⟩) (by assumption) ?q65_11r33
                  case q65_11h33 => (intro w hSw; (try dsimp only at hSw); go_simp; try with_reducible rfl)
                  (try simp only [List.getElem_toArray, List.getElem_cons_succ, List.getElem_cons_zero, Act.put, List.setIfInBounds_toArray, List.set_cons_zero, List.set_cons_succ])
                  refine anyB_take (i := 33) (oi := _) (v := ?q65_11v34) rfl (by kernel_rfl) (by kernel_rfl) (by kernel_rfl) (by kernel_rfl) (fun _ _ _ h => h) (Or.inl ⟨by rfl, ?q65_11h34⟩) (by assumption) ?q65_11r34
                  case q65_11h34 => (intro w hSw; (try dsimp only at hSw); go_simp; try with_reducible rfl)
                  (try simp only [List.getElem_toArray, List.getElem_cons_succ, List.getElem_cons_zero, Act.put, List.setIfInBounds_toArray, List.set_cons_zero, List.set_cons_succ])
                  refine anyB_take (i := 34) (oi := _) (v := ?q65_11v35) rfl (by kernel_rfl) (by kernel_rfl) (by kernel_rfl) (by kernel_rfl) (fun _ _ _ h => h) (Or.inl ⟨by rfl, ?q65_11h35⟩) (by assumption) ?q65_11r35
                  case q65_11h35 => (intro w hSw; (try dsimp only at hSw); go_simp; try with_reducible rfl)
                  (try simp only [List.getElem_toArray, List.getElem_cons_succ, List.getElem_cons_zero, Act.put, List.setIfInBounds_toArray, List.set_cons_zero, List.set_cons_succ])
                  refine anyB_done (by kernel_rfl) ?_ _
                  go_wp2
                  go_meet
                  exact ⟨by rw [Hsw.out], (Out.refl _ wj).drew⟩
                · obtain ⟨p, hp1⟩ : ∃ p, i = p + 1 := ⟨i - 1, by omega⟩
                  have hpl : p < l.length := by omega
                  have hib : ((i : Int) == 0) = false := by rw [beq_eq_false_iff_ne]; omega
                  have hwp : (i : Int) - 1 = (p : Int) := by omega
                  have hwp2 : IntKind.i64.wrap (p : Int) = (p : Int) := by rw [IntKind.wrap_i64]; omega
                  have hp0 : (0 : Int) ≤ (p : Int) := by omega
                  have hpi : (p : Int) < (l.length : Int) := by omega
                  obtain ⟨b2, o2, u2, v2, hA', -, d0, d1, d2, d3, hu2, hv2⟩ := (Hx.out.ext (HX3.out.ext HXj.out)).ent p hpl
                  injection hA' with hA'
                  injection hA' with hA1 hA2
                  subst hA1 hA2
                  have Hsw := Lib.hid (Hsaw1.out p hpl hp1 q)
                  obtain ⟨y, hy⟩ : ∃ y, l[p] = y := ⟨_, rfl⟩
                  rw [hy] at d1 d2 hu2 Hsw
                  obtain ⟨U2, N2, n2, rfl⟩ := hu2.form0
                  have HC := Lib.hid (r1_same wj.drew hu2.drew Huj.out.drew)
                  rw [decide_eq_true hq, Bool.true_and] at Hsw
                  clear hv2 hu2 hy hp1 hq hp d2 d3
                  generalize (y.key.user == e.key.user) = sm at *
                  cases sm with
                  | false =>
                    refine region_B 99 (fun w' => w'.cell? ⟨wo.heap.size, 0, none⟩ = some (.slice U1 N1 n1) ∧ w'.cell? ⟨wo.heap.size, 1, none⟩ = some (u64V e.key.seq) ∧ w'.cell? ⟨b1, o1 + p * 4, none⟩ = some (.slice U2 N2 n2) ∧ w'.cell? ⟨b1, o1 + p * 4 + 1, none⟩ = some (u64V y.key.seq)) (by kernel_rfl) ?q65_11b1S (fun hHeld0 => ?_)
                    case q65_11b1S => ((first | go_keep | ((try dsimp only); exact ⟨by assumption, by assumption, by assumption, by assumption⟩)))
                    refine anyB_take (i := 0) (oi := _) (v := ?q65_11b1v1) rfl (by kernel_rfl) (by kernel_rfl) (by kernel_rfl) (by kernel_rfl) (fun _ _ _ h => h) (Or.inl ⟨by rfl, ?q65_11b1h1⟩) (by assumption) ?q65_11b1r1
                    case q65_11b1h1 => (intro w hSw; (try dsimp only at hSw); go_simp; try with_reducible rfl)
                    (try simp only [List.getElem_toArray, List.getElem_cons_zero, Act.put, List.setIfInBounds_toArray, List.set_cons_zero, List.set_cons_succ])
                    refine anyB_take (i := 1) (oi := _) (v := ?q65_11b1v2) rfl (by kernel_rfl) (by kernel_rfl) (by kernel_rfl) (by kernel_rfl) (fun _ _ _ h => h) (Or.inl ⟨by rfl, ?q65_11b1h2⟩) (by assumption) ?q65_11b1r2
                    case q65_11b1h2 => (intro w hSw; (try dsimp only at hSw); go_simp; try with_reducible rfl)
                    (try simp only [List.getElem_toArray, List.getElem_cons_succ, List.getElem_cons_zero, Act.put, List.setIfInBounds_toArray, List.set_cons_zero, List.set_cons_succ])
                    refine anyB_take (i := 2) (oi := _) (v := ?q65_11b1v3) rfl (by kernel_rfl) (by kernel_rfl) (by kernel_rfl) (by kernel_rfl) (fun _ _ _ h => h) (Or.inl ⟨by rfl, ?q65_11b1h3⟩) (by assumption) ?q65_11b1r3
                    case q65_11b1h3 => (intro w hSw; (try dsimp only at hSw); go_simp; try with_reducible rfl)
                    (try simp only [List.getElem_toArray, List.getElem_cons_succ, List.getElem_cons_zero, Act.put, List.setIfInBounds_toArray, List.set_cons_zero, List.set_cons_succ])
                    refine anyB_take (i := 3) (oi := _) (v := ?q65_11b1v4) rfl (by kernel_rfl) (by kernel_rfl) (by kernel_rfl) (by kernel_rfl) (fun _ _ _ h => h) (Or.inl ⟨by rfl, ?q65_11b1h4⟩) (by assumption) ?q65_11b1r4
                    case q65_11b1h4 => (intro w hSw; (try dsimp only at hSw); go_simp; try with_reducible rfl)
                    (try simp only [List.getElem_toArray, List.getElem_cons_succ, List.getElem_cons_zero, Act.put, List.setIfInBounds_toArray, List.set_cons_zero, List.set_cons_succ])
                    refine anyB_take (i := 4) (oi := _) (v := ?q65_11b1v5) rfl (by kernel_rfl) (by kernel_rfl) (by kernel_rfl) (by kernel_rfl) (fun _ _ _ h => h) (Or.inl ⟨by rfl, ?q65_11b1h5⟩) (by assumption) ?q65_11b1r5
                    case q65_11b1h5 => (intro w hSw; (try dsimp only at hSw); go_simp; try with_reducible rfl)
                    (try simp only [List.getElem_toArray, List.getElem_cons_succ, List.getElem_cons_zero, Act.put, List.setIfInBounds_toArray, List.set_cons_zero, List.set_cons_succ])
                    refine anyB_take (i := 5) (oi := _) (v := ?q65_11b1v6) rfl (by kernel_rfl) (by kernel_rfl) (by kernel_rfl) (by kernel_rfl) (fun _ _ _ h => h) (Or.inl ⟨by rfl, ?q65_11b1h6⟩) (by assumption) ?q65_11b1r6
                    case q65_11b1h6 => (intro w hSw; (try dsimp only at hSw); go_simp; try with_reducible rfl)
                    (try simp only [List.getElem_toArray, List.getElem_cons_succ, List.getElem_cons_zero, Act.put, List.setIfInBounds_toArray, List.set_cons_zero, List.set_cons_succ])
                    refine anyB_take (i := 6) (oi := _) (v := ?q65_11b1v7) rfl (by kernel_rfl) (by kernel_rfl) (by kernel_rfl) (by kernel_rfl) (fun _ _ _ h => h) (Or.inl ⟨by rfl, ?q65_11b1h7⟩) (by assumption) ?q65_11b1r7
                    case q65_11b1h7 => (intro w hSw; (try dsimp only at hSw); go_simp; try with_reducible rfl)
                    (try simp only [List.getElem_toArray, List.getElem_cons_succ, List.getElem_cons_zero, Act.put, List.setIfInBounds_toArray, List.set_cons_zero, List.set_cons_succ])
                    refine anyB_take (i := 7) (oi := _) (v := ?q65_11b1v8) rfl (by kernel_rfl) (by kernel_rfl) (by kernel_rfl) (by kernel_rfl) (fun _ _ _ h => h) (Or.inl ⟨by rfl, ?q65_11b1h8⟩) (by assumption) ?q65_11b1r8
                    case q65_11b1h8 => (intro w hSw; (try dsimp only at hSw); go_simp; try with_reducible rfl)
                    (try simp only [List.getElem_toArray, List.getElem_cons_succ, List.getElem_cons_zero, Act.put, List.setIfInBounds_toArray, List.set_cons_zero, List.set_cons_succ])
                    refine anyB_take (i := 8) (oi := _) (v := ?q65_11b1v9) rfl (by kernel_rfl) (by kernel_rfl) (by kernel_rfl) (by kernel_rfl) (fun _ _ _ h => h) (Or.inl ⟨by rfl, ?q65_11b1h9⟩) (by assumption) ?q65_11b1r9
                    case q65_11b1h9 => (intro w hSw; (try dsimp only at hSw); go_simp; try with_reducible rfl)
                    (try simp only [List.getElem_toArray, List.getElem_cons_succ, List.getElem_cons_zero, Act.put, List.setIfInBounds_toArray, List.set_cons_zero, List.set_cons_succ])
                    refine anyB_take (i := 9) (oi := _) (v := ?q65_11b1v10) rfl (by kernel_rfl) (by kernel_rfl) (by kernel_rfl) (by kernel_rfl) (fun _ _ _ h => h) (Or.inl ⟨by rfl, ?q65_11b1h10⟩) (by assumption) ?q65_11b1r10
                    case q65_11b1h10 => (intro w hSw; (try dsimp only at hSw); go_simp; try with_reducible rfl)
                    (try simp only [List.getElem_toArray, List.getElem_cons_succ, List.getElem_cons_zero, Act.put, List.setIfInBounds_toArray, List.set_cons_zero, List.set_cons_succ])
                    refine anyB_take (i := 10) (oi := _) (v := ?q65_11b1v11) rfl (by kernel_rfl) (by kernel_rfl) (by kernel_rfl) (by kernel_rfl) (fun _ _ _ h => h) (Or.inl ⟨by rfl, ?q65_11b1h11⟩) (by assumption) ?q65_11b1r11
                    case q65_11b1h11 => (intro w hSw; (try dsimp only at hSw); go_simp; try with_reducible rfl)
                    (try simp only [List.getElem_toArray, List.getElem_cons_succ, List.getElem_cons_zero, Act.put, List.setIfInBounds_toArray, List.set_cons_zero, List.set_cons_succ])
                    refine anyB_take (i := 11) (oi := _) (v := ?q65_11b1v12) rfl (by kernel_rfl) (by kernel_rfl) (by kernel_rfl) (by kernel_rfl) (fun _ _ _ h => h) (Or.inl ⟨by rfl, ?q65_11b1h12⟩) (by assumption) ?q65_11b1r12
                    case q65_11b1h12 => (intro w hSw; (try dsimp only at hSw); go_simp; try with_reducible rfl)
                    (try simp only [List.getElem_toArray, List.getElem_cons_succ, List.getElem_cons_zero, Act.put, List.setIfInBounds_toArray, List.set_cons_zero, List.set_cons_succ])
                    refine anyB_take (i := 12) (oi := _) (v := ?q65_11b1v13) rfl (by kernel_rfl) (by kernel_rfl) (by kernel_rfl) (by kernel_rfl) (fun _ _ _ h => h) (Or.inl ⟨by rfl, ?q65_11b1h13⟩) (by assumption) ?q65_11b1r13
                    case q65_11b1h13 => (intro w hSw; (try dsimp only at hSw); go_simp; try with_reducible rfl)
                    (try simp only [List.getElem_toArray, List.getElem_cons_succ, List.getElem_cons_zero, Act.put, List.setIfInBounds_toArray, List.set_cons_zero, List.set_cons_succ])
                    refine anyB_take (i := 13) (oi := _) (v := ?q65_11b1v14) rfl (by kernel_rfl) (by kernel_rfl) (by kernel_rfl) (by kernel_rfl) (fun _ _ _ h => h) (Or.inl ⟨by rfl, ?q65_11b1h14⟩) (by assumption) ?q65_11b1r14
                    case q65_11b1h14 => (intro w hSw; (try dsimp only at hSw); go_simp; try with_reducible rfl)
                    (try simp only [List.getElem_toArray, List.getElem_cons_succ, List.getElem_cons_zero, Act.put, List.setIfInBounds_toArray, List.set_cons_zero, List.set_cons_succ])
                    refine anyB_take (i := 14) (oi := _) (v := ?q65_11b1v15) rfl (by kernel_rfl) (by kernel_rfl) (by kernel_rfl) (by kernel_rfl) (fun _ _ _ h => h) (Or.inl ⟨by rfl, ?q65_11b1h15⟩) (by assumption) ?q65_11b1r15
                    case q65_11b1h15 => (intro w hSw; (try dsimp only at hSw); go_simp; try with_reducible rfl)
                    (try simp only [List.getElem_toArray, List.getElem_cons_succ, List.getElem_cons_zero, Act.put, List.setIfInBounds_toArray, List.set_cons_zero, List.set_cons_succ])
                    refine anyB_take (i := 15) (oi := _) (v := ?q65_11b1v16) rfl (by kernel_rfl) (by kernel_rfl) (by kernel_rfl) (by kernel_rfl) (fun _ _ _ h => h) (Or.inl ⟨by rfl, ?q65_11b1h16⟩) (by assumption) ?q65_11b1r16
                    case q65_11b1h16 => (intro w hSw; (try dsimp only at hSw); go_simp; try with_reducible rfl)
                    (try simp only [List.getElem_toArray, List.getElem_cons_succ, List.getElem_cons_zero, Act.put, List.setIfInBounds_toArray, List.set_cons_zero, List.set_cons_succ])
                    refine anyB_take (i := 16) (oi := _) (v := ?q65_11b1v17) rfl (by kernel_rfl) (by kernel_rfl) (by kernel_rfl) (by kernel_rfl) (fun _ _ _ h => h) (Or.inl ⟨by rfl, ?q65_11b1h17⟩) (by assumption) ?q65_11b1r17
                    case q65_11b1h17 => (intro w hSw; (try dsimp only at hSw); go_simp; try with_reducible rfl)
                    (try simp only [List.getElem_toArray, List.getElem_cons_succ, List.getElem_cons_zero, Act.put, List.setIfInBounds_toArray, List.set_cons_zero, List.set_cons_succ])
                    refine anyB_take (i := 17) (oi := _) (v := ?q65_11b1v18) rfl (by kernel_rfl) (by kernel_rfl) (by kernel_rfl) (by kernel_rfl) (fun _ _ _ h => h) (Or.inl ⟨by rfl, ?q65_11b1h18⟩) (by assumption) ?q65_11b1r18
                    case q65_11b1h18 => (intro w hSw; (try dsimp only at hSw); go_simp; try with_reducible rfl)
                    (try simp only [List.getElem_toArray, List.getElem_cons_succ, List.getElem_cons_zero, Act.put, List.setIfInBounds_toArray, List.set_cons_zero, List.set_cons_succ])
                    refine anyB_take (i := 18) (oi := _) (v := ?q65_11b1v19) rfl (by kernel_rfl) (by kernel_rfl) (by kernel_rfl) (by kernel_rfl) (fun _ _ _ h => h) (Or.inl ⟨by rfl, ?q65_11b1h19⟩) (by assumption) ?q65_11b1r19
                    case q65_11b1h19 => (intro w hSw; (try dsimp only at hSw); go_simp; try with_reducible rfl)
                    (try simp only [List.getElem_toArray, List.getElem_cons_succ, List.getElem_cons_zero, Act.put, List.setIfInBounds_toArray, List.set_cons_zero, List.set_cons_succ])
                    refine anyB_step (i := 19) (o := _) (by kernel_rfl) (by rfl) (by (simp only [List.getElem?_toArray, List.getElem?_cons_succ, List.getElem?_cons_zero] <;> rfl)) (fun K hK => ?_)
                    rw [if_pos (by rfl)]
                    go_simp; go_at_call 74; refine HC.out.mono ?_; rintro r w4 ⟨rfl, rfl⟩
                    (try dsimp only)
                    refine hK.out _ _ ?q65_11b1S20 (fun hHeld1 => ?_)
                    case q65_11b1S20 => ((first | go_keep | ((try dsimp only); exact ⟨by assumption, by assumption, by assumption, by assumption⟩)))
                    clear hK K hHeld0
                    (try simp only [List.getElem_toArray, List.getElem_cons_succ, List.getElem_cons_zero, Act.put, List.setIfInBounds_toArray, List.set_cons_zero, List.set_cons_succ])
                    refine anyB_take (i := 20) (oi := _) (v := ?q65_11b1v21) rfl (by kernel_rfl) (by kernel_rfl) (by kernel_rfl) (by kernel_rfl) (fun _ _ _ h => h) (Or.inl ⟨by rfl, ?q65_11b1h21⟩) (by assumption) ?q65_11b1r21
                    case q65_11b1h21 => (intro w hSw; (try dsimp only at hSw); go_simp; try with_reducible rfl)
                    (try simp only [List.getElem_toArray, List.getElem_cons_succ, List.getElem_cons_zero, Act.put, List.setIfInBounds_toArray, List.set_cons_zero, List.set_cons_succ])
                    refine anyB_take (i := 21) (oi := _) (v := ?q65_11b1v22) rfl (by kernel_rfl) (by kernel_rfl) (by kernel_rfl) (by kernel_rfl) (fun _ _ _ h => h) (Or.inl ⟨by rfl, ?q65_11b1h22⟩) (by assumption) ?q65_11b1r22
                    case q65_11b1h22 => (intro w hSw; (try dsimp only at hSw); go_simp; try with_reducible rfl)
                    (try simp only [List.getElem_toArray, List.getElem_cons_succ, List.getElem_cons_zero, Act.put, List.setIfInBounds_toArray, List.set_cons_zero, List.set_cons_succ])
                    refine anyB_take (i := 22) (oi := _) (v := ?q65_11b1v23) rfl (by kernel_rfl) (by kernel_rfl) (by kernel_rfl) (by kernel_rfl) (fun _ _ _ h => h) (Or.inl ⟨by rfl, ?q65_11b1h23⟩) (by assumption) ?q65_11b1r23
                    case q65_11b1h23 => (intro w hSw; (try dsimp only at hSw); go_simp; try with_reducible rfl)
                    (try simp only [List.getElem_toArray, List.getElem_cons_succ, List.getElem_cons_zero, Act.put, List.setIfInBounds_toArray, List.set_cons_zero, List.set_cons_succ])
                    refine anyB_take (i := 23) (oi := _) (v := undef) rfl (by kernel_rfl) (by kernel_rfl) (by kernel_rfl) (by kernel_rfl) (fun _ _ _ h => h) (Or.inr ⟨by rfl, rfl⟩) (by assumption) ?q65_11b1r24
                    (try simp only [List.getElem_toArray, List.getElem_cons_succ, List.getElem_cons_zero, Act.put, List.setIfInBounds_toArray, List.set_cons_zero, List.set_cons_succ])
                    refine anyB_take (i := 24) (oi := _) (v := undef) rfl (by kernel_rfl) (by kernel_rfl) (by kernel_rfl) (by kernel_rfl) (fun _ _ _ h => h) (Or.inr ⟨by rfl, rfl⟩) (by assumption) ?q65_11b1r25
                    (try simp only [List.getElem_toArray, List.getElem_cons_succ, List.getElem_cons_zero, Act.put, List.setIfInBounds_toArray, List.set_cons_zero, List.set_cons_succ])
                    refine anyB_take (i := 25) (oi := _) (v := undef) rfl (by kernel_rfl) (by kernel_rfl) (by kernel_rfl) (by kernel_rfl) (fun _ _ _ h => h) (Or.inr ⟨by rfl, rfl⟩) (by assumption) ?q65_11b1r26
                    (try simp only [List.getElem_toArray, List.getElem_cons_succ, List.getElem_cons_zero, Act.put, List.setIfInBounds_toArray, List.set_cons_zero, List.set_cons_succ])
                    refine anyB_take (i := 26) (oi := _) (v := undef) rfl (by kernel_rfl) (by kernel_rfl) (by kernel_rfl) (by kernel_rfl) (fun _ _ _ h => h) (Or.inr ⟨by rfl, rfl⟩) (by assumption) ?q65_11b1r27
                    (try simp only [List.getElem_toArray, List.getElem_cons_succ, List.getElem_cons_zero, Act.put, List.setIfInBounds_toArray, List.set_cons_zero, List.set_cons_succ])
                    refine anyB_take (i := 27) (oi := _) (v := undef) rfl (by kernel_rfl) (by kernel_rfl) (by kernel_rfl) (by kernel_rfl) (fun _ _ _ h => h) (Or.inr ⟨by rfl, rfl⟩) (by assumption) ?q65_11b1r28
                    (try simp only [List.getElem_toArray, List.getElem_cons_succ, List.getElem_cons_zero, Act.put, List.setIfInBounds_toArray, List.set_cons_zero, List.set_cons_succ])
                    refine anyB_take (i := 28) (oi := _) (v := undef) rfl (by kernel_rfl) (by kernel_rfl) (by kernel_rfl) (by kernel_rfl) (fun _ _ _ h => h) (Or.inr ⟨by rfl, rfl⟩) (by assumption) ?q65_11b1r29
                    (try simp only [List.getElem_toArray, List.getElem_cons_succ, List.getElem_cons_zero, Act.put, List.setIfInBounds_toArray, List.set_cons_zero, List.set_cons_succ])
                    refine anyB_take (i := 29) (oi := _) (v := undef) rfl (by kernel_rfl) (by kernel_rfl) (by kernel_rfl) (by kernel_rfl) (fun _ _ _ h => h) (Or.inr ⟨by rfl, rfl⟩) (by assumption) ?q65_11b1r30
                    (try simp only [List.getElem_toArray, List.getElem_cons_succ, List.getElem_cons_zero, Act.put, List.setIfInBounds_toArray, List.set_cons_zero, List.set_cons_succ])
                    refine anyB_take (i := 30) (oi := _) (v := undef) rfl (by kernel_rfl) (by kernel_rfl) (by kernel_rfl) (by kernel_rfl) (fun _ _ _ h => h) (Or.inr ⟨by rfl, rfl⟩) (by assumption) ?q65_11b1r31
                    (try simp only [List.getElem_toArray, List.getElem_cons_succ, List.getElem_cons_zero, Act.put, List.setIfInBounds_toArray, List.set_cons_zero, List.set_cons_succ])
                    refine anyB_take (i := 31) (oi := _) (v := undef) rfl (by kernel_rfl) (by kernel_rfl) (by kernel_rfl) (by kernel_rfl) (fun _ _ _ h => h) (Or.inr ⟨by rfl, rfl⟩) (by assumption) ?q65_11b1r32
                    (try simp only [List.getElem_toArray, List.getElem_cons_succ, List.getElem_cons_zero, Act.put, List.setIfInBounds_toArray, List.set_cons_zero, List.set_cons_succ])
                    refine anyB_take (i := 32) (oi := _) (v := ?q65_11b1v33) rfl (by kernel_rfl) (by kernel_rfl) (by kernel_rfl) (by kernel_rfl) (fun _ _ _ h => h) (Or.inl ⟨by rfl, ?q65_11b1h33⟩) (by assumption) ?q65_11b1r33
                    case q65_11b1h33 => (intro w hSw; (try dsimp only at hSw); go_simp; try with_reducible rfl)
                    (try simp only [List.getElem_toArray, List.getElem_cons_succ, List.getElem_cons_zero, Act.put, List.setIfInBounds_toArray, List.set_cons_zero, List.set_cons_succ])
                    refine anyB_take (i := 33) (oi := _) (v := ?q65_11b1v34) rfl (by kernel_rfl) (by kernel_rfl) (by kernel_rfl) (by kernel_rfl) (fun _ _ _ h => h) (Or.inl ⟨by rfl, ?q65_11b1h34⟩) (by assumption) ?q65_11b1r34
                    case q65_11b1h34 => (intro w hSw; (try dsimp only at hSw); go_simp; try with_reducible rfl)
                    (try simp only [List.getElem_toArray, List.getElem_cons_succ, List.getElem_cons_zero, Act.put, List.setIfInBounds_toArray, List.set_cons_zero, List.set_cons_succ])
                    refine anyB_take (i := 34) (oi := _) (v := ?q65_11b1v35) rfl (by kernel_rfl) (by kernel_rfl) (by kernel_rfl) (by kernel_rfl) (fun _ _ _ h => h) (Or.inl ⟨by rfl, ?q65_11b1h35⟩) (by assumption) ?q65_11b1r35
                    case q65_11b1h35 => (intro w hSw; (try dsimp only at hSw); go_simp; try with_reducible rfl)
                    (try simp only [List.getElem_toArray, List.getElem_cons_succ, List.getElem_cons_zero, Act.put, List.setIfInBounds_toArray, List.set_cons_zero, List.set_cons_succ])
                    refine anyB_done (by kernel_rfl) ?_ _
                    go_wp2
                    go_meet
                    exact ⟨by rw [Hsw.out]; rfl, (Out.refl _ wj).drew⟩
                  | true =>
                    refine region_B 99 (fun w' => w'.cell? ⟨wo.heap.size, 0, none⟩ = some (.slice U1 N1 n1) ∧ w'.cell? ⟨wo.heap.size, 1, none⟩ = some (u64V e.key.seq) ∧ w'.cell? ⟨b1, o1 + p * 4, none⟩ = some (.slice U2 N2 n2) ∧ w'.cell? ⟨b1, o1 + p * 4 + 1, none⟩ = some (u64V y.key.seq)) (by kernel_rfl) ?q65_11b2S (fun hHeld0 => ?_)
                    case q65_11b2S => ((first | go_keep | ((try dsimp only); exact ⟨by assumption, by assumption, by assumption, by assumption⟩)))
                    refine anyB_take (i := 0) (oi := _) (v := ?q65_11b2v1) rfl (by kernel_rfl) (by kernel_rfl) (by kernel_rfl) (by kernel_rfl) (fun _ _ _ h => h) (Or.inl ⟨by rfl, ?q65_11b2h1⟩) (by assumption) ?q65_11b2r1
                    case q65_11b2h1 => (intro w hSw; (try dsimp only at hSw); go_simp; try with_reducible rfl)
                    (try simp only [List.getElem_toArray, List.getElem_cons_zero, Act.put, List.setIfInBounds_toArray, List.set_cons_zero, List.set_cons_succ])
                    refine anyB_take (i := 1) (oi := _) (v := ?q65_11b2v2) rfl (by kernel_rfl) (by kernel_rfl) (by kernel_rfl) (by kernel_rfl) (fun _ _ _ h => h) (Or.inl ⟨by rfl, ?q65_11b2h2⟩) (by assumption) ?q65_11b2r2
                    case q65_11b2h2 => (intro w hSw; (try dsimp only at hSw); go_simp; try with_reducible rfl)
                    (try simp only [List.getElem_toArray, List.getElem_cons_succ, List.getElem_cons_zero, Act.put, List.setIfInBounds_toArray, List.set_cons_zero, List.set_cons_succ])
                    refine anyB_take (i := 2) (oi := _) (v := ?q65_11b2v3) rfl (by kernel_rfl) (by kernel_rfl) (by kernel_rfl) (by kernel_rfl) (fun _ _ _ h => h) (Or.inl ⟨by rfl, ?q65_11b2h3⟩) (by assumption) ?q65_11b2r3
                    case q65_11b2h3 => (intro w hSw; (try dsimp only at hSw); go_simp; try with_reducible rfl)
                    (try simp only [List.getElem_toArray, List.getElem_cons_succ, List.getElem_cons_zero, Act.put, List.setIfInBounds_toArray, List.set_cons_zero, List.set_cons_succ])
                    refine anyB_take (i := 3) (oi := _) (v := ?q65_11b2v4) rfl (by kernel_rfl) (by kernel_rfl) (by kernel_rfl) (by kernel_rfl) (fun _ _ _ h => h) (Or.inl ⟨by rfl, ?q65_11b2h4⟩) (by assumption) ?q65_11b2r4
                    case q65_11b2h4 => (intro w hSw; (try dsimp only at hSw); go_simp; try with_reducible rfl)
                    (try simp only [List.getElem_toArray, List.getElem_cons_succ, List.getElem_cons_zero, Act.put, List.setIfInBounds_toArray, List.set_cons_zero, List.set_cons_succ])
                    refine anyB_take (i := 4) (oi := _) (v := ?q65_11b2v5) rfl (by kernel_rfl) (by kernel_rfl) (by kernel_rfl) (by kernel_rfl) (fun _ _ _ h => h) (Or.inl ⟨by rfl, ?q65_11b2h5⟩) (by assumption) ?q65_11b2r5
                    case q65_11b2h5 => (intro w hSw; (try dsimp only at hSw); go_simp; try with_reducible rfl)
                    (try simp only [List.getElem_toArray, List.getElem_cons_succ, List.getElem_cons_zero, Act.put, List.setIfInBounds_toArray, List.set_cons_zero, List.set_cons_succ])
                    refine anyB_take (i := 5) (oi := _) (v := ?q65_11b2v6) rfl (by kernel_rfl) (by kernel_rfl) (by kernel_rfl) (by kernel_rfl) (fun _ _ _ h => h) (Or.inl ⟨by rfl, ?q65_11b2h6⟩) (by assumption) ?q65_11b2r6
                    case q65_11b2h6 => (intro w hSw; (try dsimp only at hSw); go_simp; try with_reducible rfl)
                    (try simp only [List.getElem_toArray, List.getElem_cons_succ, List.getElem_cons_zero, Act.put, List.setIfInBounds_toArray, List.set_cons_zero, List.set_cons_succ])
                    refine anyB_take (i := 6) (oi := _) (v := ?q65_11b2v7) rfl (by kernel_rfl) (by kernel_rfl) (by kernel_rfl) (by kernel_rfl) (fun _ _ _ h => h) (Or.inl ⟨by rfl, ?q65_11b2h7⟩) (by assumption) ?q65_11b2r7
                    case q65_11b2h7 => (intro w hSw; (try dsimp only at hSw); go_simp; try with_reducible rfl)
                    (try simp only [List.getElem_toArray, List.getElem_cons_succ, List.getElem_cons_zero, Act.put, List.setIfInBounds_toArray, List.set_cons_zero, List.set_cons_succ])
                    refine anyB_take (i := 7) (oi := _) (v := ?q65_11b2v8) rfl (by kernel_rfl) (by kernel_rfl) (by kernel_rfl) (by kernel_rfl) (fun _ _ _ h => h) (Or.inl ⟨by rfl, ?q65_11b2h8⟩) (by assumption) ?q65_11b2r8
                    case q65_11b2h8 => (intro w hSw; (try dsimp only at hSw); go_simp; try with_reducible rfl)
                    (try simp only [List.getElem_toArray, List.getElem_cons_succ, List.getElem_cons_zero, Act.put, List.setIfInBounds_toArray, List.set_cons_zero, List.set_cons_succ])
                    refine anyB_take (i := 8) (oi := _) (v := ?q65_11b2v9) rfl (by kernel_rfl) (by kernel_rfl) (by kernel_rfl) (by kernel_rfl) (fun _ _ _ h => h) (Or.inl ⟨by rfl, ?q65_11b2h9⟩) (by assumption) ?q65_11b2r9
                    case q65_11b2h9 => (intro w hSw; (try dsimp only at hSw); go_simp; try with_reducible rfl)
                    (try simp only [List.getElem_toArray, List.getElem_cons_succ, List.getElem_cons_zero, Act.put, List.setIfInBounds_toArray, List.set_cons_zero, List.set_cons_succ])
                    refine anyB_take (i := 9) (oi := _) (v := ?q65_11b2v10) rfl (by kernel_rfl) (by kernel_rfl) (by kernel_rfl) (by kernel_rfl) (fun _ _ _ h => h) (Or.inl ⟨by rfl, ?q65_11b2h10⟩) (by assumption) ?q65_11b2r10
                    case q65_11b2h10 => (intro w hSw; (try dsimp only at hSw); go_simp; try with_reducible rfl)
                    (try simp only [List.getElem_toArray, List.getElem_cons_succ, List.getElem_cons_zero, Act.put, List.setIfInBounds_toArray, List.set_cons_zero, List.set_cons_succ])
                    refine anyB_take (i := 10) (oi := _) (v := ?q65_11b2v11) rfl (by kernel_rfl) (by kernel_rfl) (by kernel_rfl) (by kernel_rfl) (fun _ _ _ h => h) (Or.inl ⟨by rfl, ?q65_11b2h11⟩) (by assumption) ?q65_11b2r11
                    case q65_11b2h11 => (intro w hSw; (try dsimp only at hSw); go_simp; try with_reducible rfl)
                    (try simp only [List.getElem_toArray, List.getElem_cons_succ, List.getElem_cons_zero, Act.put, List.setIfInBounds_toArray, List.set_cons_zero, List.set_cons_succ])
                    refine anyB_take (i := 11) (oi := _) (v := ?q65_11b2v12) rfl (by kernel_rfl) (by kernel_rfl) (by kernel_rfl) (by kernel_rfl) (fun _ _ _ h => h) (Or.inl ⟨by rfl, ?q65_11b2h12⟩) (by assumption) ?q65_11b2r12
                    case q65_11b2h12 => (intro w hSw; (try dsimp only at hSw); go_simp; try with_reducible rfl)
                    (try simp only [List.getElem_toArray, List.getElem_cons_succ, List.getElem_cons_zero, Act.put, List.setIfInBounds_toArray, List.set_cons_zero, List.set_cons_succ])
                    refine anyB_take (i := 12) (oi := _) (v := ?q65_11b2v13) rfl (by kernel_rfl) (by kernel_rfl) (by kernel_rfl) (by kernel_rfl) (fun _ _ _ h => h) (Or.inl ⟨by rfl, ?q65_11b2h13⟩) (by assumption) ?q65_11b2r13
                    case q65_11b2h13 => (intro w hSw; (try dsimp only at hSw); go_simp; try with_reducible rfl)
                    (try simp only [List.getElem_toArray, List.getElem_cons_succ, List.getElem_cons_zero, Act.put, List.setIfInBounds_toArray, List.set_cons_zero, List.set_cons_succ])
                    refine anyB_take (i := 13) (oi := _) (v := ?q65_11b2v14) rfl (by kernel_rfl) (by kernel_rfl) (by kernel_rfl) (by kernel_rfl) (fun _ _ _ h => h) (Or.inl ⟨by rfl, ?q65_11b2h14⟩) (by assumption) ?q65_11b2r14
                    case q65_11b2h14 => (intro w hSw; (try dsimp only at hSw); go_simp; try with_reducible rfl)
                    (try simp only [List.getElem_toArray, List.getElem_cons_succ, List.getElem_cons_zero, Act.put, List.setIfInBounds_toArray, List.set_cons_zero, List.set_cons_succ])
                    refine anyB_take (i := 14) (oi := _) (v := ?q65_11b2v15) rfl (by kernel_rfl) (by kernel_rfl) (by kernel_rfl) (by kernel_rfl) (fun _ _ _ h => h) (Or.inl ⟨by rfl, ?q65_11b2h15⟩) (by assumption) ?q65_11b2r15
                    case q65_11b2h15 => (intro w hSw; (try dsimp only at hSw); go_simp; try with_reducible rfl)
                    (try simp only [List.getElem_toArray, List.getElem_cons_succ, List.getElem_cons_zero, Act.put, List.setIfInBounds_toArray, List.set_cons_zero, List.set_cons_succ])
                    refine anyB_take (i := 15) (oi := _) (v := ?q65_11b2v16) rfl (by kernel_rfl) (by kernel_rfl) (by kernel_rfl) (by kernel_rfl) (fun _ _ _ h => h) (Or.inl ⟨by rfl, ?q65_11b2h16⟩) (by assumption) ?q65_11b2r16
                    case q65_11b2h16 => (intro w hSw; (try dsimp only at hSw); go_simp; try with_reducible rfl)
                    (try simp only [List.getElem_toArray, List.getElem_cons_succ, List.getElem_cons_zero, Act.put, List.setIfInBounds_toArray, List.set_cons_zero, List.set_cons_succ])
                    refine anyB_take (i := 16) (oi := _) (v := ?q65_11b2v17) rfl (by kernel_rfl) (by kernel_rfl) (by kernel_rfl) (by kernel_rfl) (fun _ _ _ h => h) (Or.inl ⟨by rfl, ?q65_11b2h17⟩) (by assumption) ?q65_11b2r17
                    case q65_11b2h17 => (intro w hSw; (try dsimp only at hSw); go_simp; try with_reducible rfl)
                    (try simp only [List.getElem_toArray, List.getElem_cons_succ, List.getElem_cons_zero, Act.put, List.setIfInBounds_toArray, List.set_cons_zero, List.set_cons_succ])
                    refine anyB_take (i := 17) (oi := _) (v := ?q65_11b2v18) rfl (by kernel_rfl) (by kernel_rfl) (by kernel_rfl) (by kernel_rfl) (fun _ _ _ h => h) (Or.inl ⟨by rfl, ?q65_11b2h18⟩) (by assumption) ?q65_11b2r18
                    case q65_11b2h18 => (intro w hSw; (try dsimp only at hSw); go_simp; try with_reducible rfl)
                    (try simp only [List.getElem_toArray, List.getElem_cons_succ, List.getElem_cons_zero, Act.put, List.setIfInBounds_toArray, List.set_cons_zero, List.set_cons_succ])
                    refine anyB_take (i := 18) (oi := _) (v := ?q65_11b2v19) rfl (by kernel_rfl) (by kernel_rfl) (by kernel_rfl) (by kernel_rfl) (fun _ _ _ h => h) (Or.inl ⟨by rfl, ?q65_11b2h19⟩) (by assumption) ?q65_11b2r19
                    case q65_11b2h19 => (intro w hSw; (try dsimp only at hSw); go_simp; try with_reducible rfl)
                    (try simp only [List.getElem_toArray, List.getElem_cons_succ, List.getElem_cons_zero, Act.put, List.setIfInBounds_toArray, List.set_cons_zero, List.set_cons_succ])
                    refine anyB_step (i := 19) (o := _) (by kernel_rfl) (by rfl) (by (simp only [List.getElem?_toArray, List.getElem?_cons_succ, List.getElem?_cons_zero] <;> rfl)) (fun K hK => ?_)
                    rw [if_pos (by rfl)]
                    go_simp; go_at_call 74; refine HC.out.mono ?_; rintro r w4 ⟨rfl, rfl⟩
                    (try dsimp only)
                    refine hK.out _ _ ?q65_11b2S20 (fun hHeld1 => ?_)
                    case q65_11b2S20 => ((first | go_keep | ((try dsimp only); exact ⟨by assumption, by assumption, by assumption, by assumption⟩)))
                    clear hK K hHeld0
                    (try simp only [List.getElem_toArray, List.getElem_cons_succ, List.getElem_cons_zero, Act.put, List.setIfInBounds_toArray, List.set_cons_zero, List.set_cons_succ])
                    refine anyB_take (i := 20) (oi := _) (v := ?q65_11b2v21) rfl (by kernel_rfl) (by kernel_rfl) (by kernel_rfl) (by kernel_rfl) (fun _ _ _ h => h) (Or.inl ⟨by rfl, ?q65_11b2h21⟩) (by assumption) ?q65_11b2r21
                    case q65_11b2h21 => (intro w hSw; (try dsimp only at hSw); go_simp; try with_reducible rfl)
                    (try simp only [List.getElem_toArray, List.getElem_cons_succ, List.getElem_cons_zero, Act.put, List.setIfInBounds_toArray, List.set_cons_zero, List.set_cons_succ])
                    refine anyB_take (i := 21) (oi := _) (v := ?q65_11b2v22) rfl (by kernel_rfl) (by kernel_rfl) (by kernel_rfl) (by kernel_rfl) (fun _ _ _ h => h) (Or.inl ⟨by rfl, ?q65_11b2h22⟩) (by assumption) ?q65_11b2r22
                    case q65_11b2h22 => (intro w hSw; (try dsimp only at hSw); go_simp; try with_reducible rfl)
                    (try simp only [List.getElem_toArray, List.getElem_cons_succ, List.getElem_cons_zero, Act.put, List.setIfInBounds_toArray, List.set_cons_zero, List.set_cons_succ])
                    refine anyB_take (i := 22) (oi := _) (v := ?q65_11b2v23) rfl (by kernel_rfl) (by kernel_rfl) (by kernel_rfl) (by kernel_rfl) (fun _ _ _ h => h) (Or.inl ⟨by rfl, ?q65_11b2h23⟩) (by assumption) ?q65_11b2r23
                    case q65_11b2h23 => (intro w hSw; (try dsimp only at hSw); go_simp; try with_reducible rfl)
                    (try simp only [List.getElem_toArray, List.getElem_cons_succ, List.getElem_cons_zero, Act.put, List.setIfInBounds_toArray, List.set_cons_zero, List.set_cons_succ])
                    refine anyB_take (i := 23) (oi := _) (v := ?q65_11b2v24) rfl (by kernel_rfl) (by kernel_rfl) (by kernel_rfl) (by kernel_rfl) (fun _ _ _ h => h) (Or.inl ⟨by rfl, ?q65_11b2h24⟩) (by assumption) ?q65_11b2r24
                    case q65_11b2h24 => (intro w hSw; (try dsimp only at hSw); go_simp; try with_reducible rfl)
                    (try simp only [List.getElem_toArray, List.getElem_cons_succ, List.getElem_cons_zero, Act.put, List.setIfInBounds_toArray, List.set_cons_zero, List.set_cons_succ])
                    refine anyB_take (i := 24) (oi := _) (v := ?q65_11b2v25) rfl (by kernel_rfl) (by kernel_rfl) (by kernel_rfl) (by kernel_rfl) (fun _ _ _ h => h) (Or.inl ⟨by rfl, ?q65_11b2h25⟩) (by assumption) ?q65_11b2r25
                    case q65_11b2h25 => (intro w hSw; (try dsimp only at hSw); go_simp; try with_reducible rfl)
                    (try simp only [List.getElem_toArray, List.getElem_cons_succ, List.getElem_cons_zero, Act.put, List.setIfInBounds_toArray, List.set_cons_zero, List.set_cons_succ])
                    refine anyB_take (i := 25) (oi := _) (v := ?q65_11b2v26) rfl (by kernel_rfl) (by kernel_rfl) (by kernel_rfl) (by kernel_rfl) (fun _ _ _ h => h) (Or.inl ⟨by rfl, ?q65_11b2h26⟩) (by assumption) ?q65_11b2r26
                    case q65_11b2h26 => (intro w hSw; (try dsimp only at hSw); go_simp; try with_reducible rfl)
                    (try simp only [List.getElem_toArray, List.getElem_cons_succ, List.getElem_cons_zero, Act.put, List.setIfInBounds_toArray, List.set_cons_zero, List.set_cons_succ])
                    refine anyB_take (i := 26) (oi := _) (v := ?q65_11b2v27) rfl (by kernel_rfl) (by kernel_rfl) (by kernel_rfl) (by kernel_rfl) (fun _ _ _ h => h) (Or.inl ⟨by rfl, ?q65_11b2h27⟩) (by assumption) ?q65_11b2r27
                    case q65_11b2h27 => (intro w hSw; (try dsimp only at hSw); go_simp; try with_reducible rfl)
                    (try simp only [List.getElem_toArray, List.getElem_cons_succ, List.getElem_cons_zero, Act.put, List.setIfInBounds_toArray, List.set_cons_zero, List.set_cons_succ])
                    refine anyB_take (i := 27) (oi := _) (v := ?q65_11b2v28) rfl (by kernel_rfl) (by kernel_rfl) (by kernel_rfl) (by kernel_rfl) (fun _ _ _ h => h) (Or.inl ⟨by rfl, ?q65_11b2h28⟩) (by assumption) ?q65_11b2r28
                    case q65_11b2h28 => (intro w hSw; (try dsimp only at hSw); go_simp; try with_reducible rfl)
                    (try simp only [List.getElem_toArray, List.getElem_cons_succ, List.getElem_cons_zero, Act.put, List.setIfInBounds_toArray, List.set_cons_zero, List.set_cons_succ])
                    refine anyB_take (i := 28) (oi := _) (v := ?q65_11b2v29) rfl (by kernel_rfl) (by kernel_rfl) (by kernel_rfl) (by kernel_rfl) (fun _ _ _ h => h) (Or.inl ⟨by rfl, ?q65_11b2h29⟩) (by assumption) ?q65_11b2r29
                    case q65_11b2h29 => (intro w hSw; (try dsimp only at hSw); go_simp; try with_reducible rfl)
                    (try simp only [List.getElem_toArray, List.getElem_cons_succ, List.getElem_cons_zero, Act.put, List.setIfInBounds_toArray, List.set_cons_zero, List.set_cons_succ])
                    refine anyB_take (i := 29) (oi := _) (v := ?q65_11b2v30) rfl (by kernel_rfl) (by kernel_rfl) (by kernel_rfl) (by kernel_rfl) (fun _ _ _ h => h) (Or.inl ⟨by rfl, ?q65_11b2h30⟩) (by assumption) ?q65_11b2r30
                    case q65_11b2h30 => (intro w hSw; (try dsimp only at hSw); go_simp; try with_reducible rfl)
                    (try simp only [List.getElem_toArray, List.getElem_cons_succ, List.getElem_cons_zero, Act.put, List.setIfInBounds_toArray, List.set_cons_zero, List.set_cons_succ])
                    refine anyB_take (i := 30) (oi := _) (v := ?q65_11b2v31) rfl (by kernel_rfl) (by kernel_rfl) (by kernel_rfl) (by kernel_rfl) (fun _ _ _ h => h) (Or.inl ⟨by rfl, ?q65_11b2h31⟩) (by assumption) ?q65_11b2r31
                    case q65_11b2h31 => (intro w hSw; (try dsimp only at hSw); go_simp; try with_reducible rfl)
                    (try simp only [List.getElem_toArray, List.getElem_cons_succ, List.getElem_cons_zero, Act.put, List.setIfInBounds_toArray, List.set_cons_zero, List.set_cons_succ])
                    refine anyB_take (i := 31) (oi := _) (v := ?q65_11b2v32) rfl (by kernel_rfl) (by kernel_rfl) (by kernel_rfl) (by kernel_rfl) (fun _ _ _ h => h) (Or.inl ⟨by rfl, ?q65_11b2h32⟩) (by assumption) ?q65_11b2r32
                    case q65_11b2h32 => (intro w hSw; (try dsimp only at hSw); go_simp; try with_reducible rfl)
                    (try simp only [List.getElem_toArray, List.getElem_cons_succ, List.getElem_cons_zero, Act.put, List.setIfInBounds_toArray, List.set_cons_zero, List.set_cons_succ])
                    refine anyB_take (i := 32) (oi := _) (v := ?q65_11b2v33) rfl (by kernel_rfl) (by kernel_rfl) (by kernel_rfl) (by kernel_rfl) (fun _ _ _ h => h) (Or.inl ⟨by rfl, ?q65_11b2h33⟩) (by assumption) ?q65_11b2r33
                    case q65_11b2h33 => (intro w hSw; (try dsimp only at hSw); go_simp; try with_reducible rfl)
                    (try simp only [List.getElem_toArray, List.getElem_cons_succ, List.getElem_cons_zero, Act.put, List.setIfInBounds_toArray, List.set_cons_zero, List.set_cons_succ])
                    refine anyB_take (i := 33) (oi := _) (v := ?q65_11b2v34) rfl (by kernel_rfl) (by kernel_rfl) (by kernel_rfl) (by kernel_rfl) (fun _ _ _ h => h) (Or.inl ⟨by rfl, ?q65_11b2h34⟩) (by assumption) ?q65_11b2r34
                    case q65_11b2h34 => (intro w hSw; (try dsimp only at hSw); go_simp; try with_reducible rfl)
                    (try simp only [List.getElem_toArray, List.getElem_cons_succ, List.getElem_cons_zero, Act.put, List.setIfInBounds_toArray, List.set_cons_zero, List.set_cons_succ])
                    refine anyB_take (i := 34) (oi := _) (v := ?q65_11b2v35) rfl (by kernel_rfl) (by kernel_rfl) (by kernel_rfl) (by kernel_rfl) (fun _ _ _ h => h) (Or.inl ⟨by rfl, ?q65_11b2h35⟩) (by assumption) ?q65_11b2r35
                    case q65_11b2h35 => (intro w hSw; (try dsimp only at hSw); go_simp; try with_reducible rfl)
                    (try simp only [List.getElem_toArray, List.getElem_cons_succ, List.getElem_cons_zero, Act.put, List.setIfInBounds_toArray, List.set_cons_zero, List.set_cons_succ])
                    refine anyB_done (by kernel_rfl) ?_ _
                    go_wp2
                    go_meet
                    exact ⟨by rw [Hsw.out]; simp, (Out.refl _ wj).drew⟩
              · have hqi : ¬ ((e.key.seq.toNat : Nat) : Int) ≤ ((q.toNat : Nat) : Int) := by omega
                have Hsw : Hid (sawB l e q = false) := Lib.hid (by
                  rcases Nat.eq_zero_or_pos i with h0 | hp
                  · exact (Hsaw0.out h0 q).trans (decide_eq_false hq)
                  · have := Hsaw1.out (i - 1) (by omega) (by omega) q
                    rw [decide_eq_false hq, Bool.false_and] at this
                    exact this)
                clear hq
                refine region_B 99 (fun w' => w'.cell? ⟨wo.heap.size, 0, none⟩ = some (.slice U1 N1 n1) ∧ w'.cell? ⟨wo.heap.size, 1, none⟩ = some (u64V e.key.seq)) (by kernel_rfl) ?q65_11b3S (fun hHeld0 => ?_)
                case q65_11b3S => ((first | go_keep | ((try dsimp only); exact ⟨by assumption, by assumption⟩)))
                refine anyB_take (i := 0) (oi := _) (v := ?q65_11b3v1) rfl (by kernel_rfl) (by kernel_rfl) (by kernel_rfl) (by kernel_rfl) (fun _ _ _ h => h) (Or.inl ⟨by rfl, ?q65_11b3h1⟩) (by assumption) ?q65_11b3r1
                case q65_11b3h1 => (intro w hSw; (try dsimp only at hSw); go_simp; try with_reducible rfl)
                (try simp only [List.getElem_toArray, List.getElem_cons_zero, Act.put, List.setIfInBounds_toArray, List.set_cons_zero, List.set_cons_succ])
                refine anyB_take (i := 1) (oi := _) (v := ?q65_11b3v2) rfl (by kernel_rfl) (by kernel_rfl) (by kernel_rfl) (by kernel_rfl) (fun _ _ _ h => h) (Or.inl ⟨by rfl, ?q65_11b3h2⟩) (by assumption) ?q65_11b3r2
                case q65_11b3h2 => (intro w hSw; (try dsimp only at hSw); go_simp; try with_reducible rfl)
                (try simp only [List.getElem_toArray, List.getElem_cons_succ, List.getElem_cons_zero, Act.put, List.setIfInBounds_toArray, List.set_cons_zero, List.set_cons_succ])
                refine anyB_take (i := 2) (oi := _) (v := ?q65_11b3v3) rfl (by kernel_rfl) (by kernel_rfl) (by kernel_rfl) (by kernel_rfl) (fun _ _ _ h => h) (Or.inl ⟨by rfl, ?q65_11b3h3⟩) (by assumption) ?q65_11b3r3
                case q65_11b3h3 => (intro w hSw; (try dsimp only at hSw); go_simp; try with_reducible rfl)
                (try simp only [List.getElem_toArray, List.getElem_cons_succ, List.getElem_cons_zero, Act.put, List.setIfInBounds_toArray, List.set_cons_zero, List.set_cons_succ])
                refine anyB_take (i := 3) (oi := _) (v := ?q65_11b3v4) rfl (by kernel_rfl) (by kernel_rfl) (by kernel_rfl) (by kernel_rfl) (fun _ _ _ h => h) (Or.inl ⟨by rfl, ?q65_11b3h4⟩) (by assumption) ?q65_11b3r4
                case q65_11b3h4 => (intro w hSw; (try dsimp only at hSw); go_simp; try with_reducible rfl)
                (try simp only [List.getElem_toArray, List.getElem_cons_succ, List.getElem_cons_zero, Act.put, List.setIfInBounds_toArray, List.set_cons_zero, List.set_cons_succ])
                refine anyB_take (i := 4) (oi := _) (v := ?q65_11b3v5) rfl (by kernel_rfl) (by kernel_rfl) (by kernel_rfl) (by kernel_rfl) (fun _ _ _ h => h) (Or.inl ⟨by rfl, ?q65_11b3h5⟩) (by assumption) ?q65_11b3r5
                case q65_11b3h5 => (intro w hSw; (try dsimp only at hSw); go_simp; try with_reducible rfl)
                (try simp only [List.getElem_toArray, List.getElem_cons_succ, List.getElem_cons_zero, Act.put, List.setIfInBounds_toArray, List.set_cons_zero, List.set_cons_succ])
                refine anyB_take (i := 5) (oi := _) (v := ?q65_11b3v6) rfl (by kernel_rfl) (by kernel_rfl) (by kernel_rfl) (by kernel_rfl) (fun _ _ _ h => h) (Or.inl ⟨by rfl, ?q65_11b3h6⟩) (by assumption) ?q65_11b3r6
                case q65_11b3h6 => (intro w hSw; (try dsimp only at hSw); go_simp; try with_reducible rfl)
                (try simp only [List.getElem_toArray, List.getElem_cons_succ, List.getElem_cons_zero, Act.put, List.setIfInBounds_toArray, List.set_cons_zero, List.set_cons_succ])
                refine anyB_take (i := 6) (oi := _) (v := undef) rfl (by kernel_rfl) (by kernel_rfl) (by kernel_rfl) (by kernel_rfl) (fun _ _ _ h => h) (Or.inr ⟨by rfl, rfl⟩) (by assumption) ?q65_11b3r7
                (try simp only [List.getElem_toArray, List.getElem_cons_succ, List.getElem_cons_zero, Act.put, List.setIfInBounds_toArray, List.set_cons_zero, List.set_cons_succ])
                refine anyB_take (i := 7) (oi := _) (v := undef) rfl (by kernel_rfl) (by kernel_rfl) (by kernel_rfl) (by kernel_rfl) (fun _ _ _ h => h) (Or.inr ⟨by rfl, rfl⟩) (by assumption) ?q65_11b3r8
                (try simp only [List.getElem_toArray, List.getElem_cons_succ, List.getElem_cons_zero, Act.put, List.setIfInBounds_toArray, List.set_cons_zero, List.set_cons_succ])
                refine anyB_take (i := 8) (oi := _) (v := undef) rfl (by kernel_rfl) (by kernel_rfl) (by kernel_rfl) (by kernel_rfl) (fun _ _ _ h => h) (Or.inr ⟨by rfl, rfl⟩) (by assumption) ?q65_11b3r9
                (try simp only [List.getElem_toArray, List.getElem_cons_succ, List.getElem_cons_zero, Act.put, List.setIfInBounds_toArray, List.set_cons_zero, List.set_cons_succ])
                refine anyB_take (i := 9) (oi := _) (v := undef) rfl (by kernel_rfl) (by kernel_rfl) (by kernel_rfl) (by kernel_rfl) (fun _ _ _ h => h) (Or.inr ⟨by rfl, rfl⟩) (by assumption) ?q65_11b3r10
                (try simp only [List.getElem_toArray, List.getElem_cons_succ, List.getElem_cons_zero, Act.put, List.setIfInBounds_toArray, List.set_cons_zero, List.set_cons_succ])
                refine anyB_take (i := 10) (oi := _) (v := undef) rfl (by kernel_rfl) (by kernel_rfl) (by kernel_rfl) (by kernel_rfl) (fun _ _ _ h => h) (Or.inr ⟨by rfl, rfl⟩) (by assumption) ?q65_11b3r11
                (try simp only [List.getElem_toArray, List.getElem_cons_succ, List.getElem_cons_zero, Act.put, List.setIfInBounds_toArray, List.set_cons_zero, List.set_cons_succ])
                refine anyB_take (i := 11) (oi := _) (v := undef) rfl (by kernel_rfl) (by kernel_rfl) (by kernel_rfl) (by kernel_rfl) (fun _ _ _ h => h) (Or.inr ⟨by rfl, rfl⟩) (by assumption) ?q65_11b3r12
                (try simp only [List.getElem_toArray, List.getElem_cons_succ, List.getElem_cons_zero, Act.put, List.setIfInBounds_toArray, List.set_cons_zero, List.set_cons_succ])
                refine anyB_take (i := 12) (oi := _) (v := undef) rfl (by kernel_rfl) (by kernel_rfl) (by kernel_rfl) (by kernel_rfl) (fun _ _ _ h => h) (Or.inr ⟨by rfl, rfl⟩) (by assumption) ?q65_11b3r13
                (try simp only [List.getElem_toArray, List.getElem_cons_succ, List.getElem_cons_zero, Act.put, List.setIfInBounds_toArray, List.set_cons_zero, List.set_cons_succ])
                refine anyB_take (i := 13) (oi := _) (v := undef) rfl (by kernel_rfl) (by kernel_rfl) (by kernel_rfl) (by kernel_rfl) (fun _ _ _ h => h) (Or.inr ⟨by rfl, rfl⟩) (by assumption) ?q65_11b3r14
                (try simp only [List.getElem_toArray, List.getElem_cons_succ, List.getElem_cons_zero, Act.put, List.setIfInBounds_toArray, List.set_cons_zero, List.set_cons_succ])
                refine anyB_take (i := 14) (oi := _) (v := undef) rfl (by kernel_rfl) (by kernel_rfl) (by kernel_rfl) (by kernel_rfl) (fun _ _ _ h => h) (Or.inr ⟨by rfl, rfl⟩) (by assumption) ?q65_11b3r15
                (try simp only [List.getElem_toArray, List.getElem_cons_succ, List.getElem_cons_zero, Act.put, List.setIfInBounds_toArray, List.set_cons_zero, List.set_cons_succ])
                refine anyB_take (i := 15) (oi := _) (v := undef) rfl (by kernel_rfl) (by kernel_rfl) (by kernel_rfl) (by kernel_rfl) (fun _ _ _ h => h) (Or.inr ⟨by rfl, rfl⟩) (by assumption) ?q65_11b3r16
                (try simp only [List.getElem_toArray, List.getElem_cons_succ, List.getElem_cons_zero, Act.put, List.setIfInBounds_toArray, List.set_cons_zero, List.set_cons_succ])
                refine anyB_take (i := 16) (oi := _) (v := undef) rfl (by kernel_rfl) (by kernel_rfl) (by kernel_rfl) (by kernel_rfl) (fun _ _ _ h => h) (Or.inr ⟨by rfl, rfl⟩) (by assumption) ?q65_11b3r17
                (try simp only [List.getElem_toArray, List.getElem_cons_succ, List.getElem_cons_zero, Act.put, List.setIfInBounds_toArray, List.set_cons_zero, List.set_cons_succ])
                refine anyB_take (i := 17) (oi := _) (v := undef) rfl (by kernel_rfl) (by kernel_rfl) (by kernel_rfl) (by kernel_rfl) (fun _ _ _ h => h) (Or.inr ⟨by rfl, rfl⟩) (by assumption) ?q65_11b3r18
                (try simp only [List.getElem_toArray, List.getElem_cons_succ, List.getElem_cons_zero, Act.put, List.setIfInBounds_toArray, List.set_cons_zero, List.set_cons_succ])
                refine anyB_take (i := 18) (oi := _) (v := undef) rfl (by kernel_rfl) (by kernel_rfl) (by kernel_rfl) (by kernel_rfl) (fun _ _ _ h => h) (Or.inr ⟨by rfl, rfl⟩) (by assumption) ?q65_11b3r19
                (try simp only [List.getElem_toArray, List.getElem_cons_succ, List.getElem_cons_zero, Act.put, List.setIfInBounds_toArray, List.set_cons_zero, List.set_cons_succ])
                refine anyB_step (i := 19) (o := _) (by kernel_rfl) (by rfl) (by (simp only [List.getElem?_toArray, List.getElem?_cons_succ, List.getElem?_cons_zero] <;> rfl)) (fun K hK => ?_)
                refine Eq.mpr (if_neg ?q65_11b3w20) ?_
                case q65_11b3w20 => (intro hw; exact absurd (show false = true from hw) (by decide))
                refine hK.out _ _ ?q65_11b3S20 (fun hHeld1 => ?_)
                case q65_11b3S20 => ((first | go_keep | ((try dsimp only); exact ⟨by assumption, by assumption⟩)))
                clear hK K hHeld0
                (try simp only [Act.put, List.setIfInBounds_toArray, List.set_cons_zero, List.set_cons_succ])
                refine anyB_take (i := 20) (oi := _) (v := undef) rfl (by kernel_rfl) (by kernel_rfl) (by kernel_rfl) (by kernel_rfl) (fun _ _ _ h => h) (Or.inr ⟨by rfl, rfl⟩) (by assumption) ?q65_11b3r21
                (try simp only [List.getElem_toArray, List.getElem_cons_succ, List.getElem_cons_zero, Act.put, List.setIfInBounds_toArray, List.set_cons_zero, List.set_cons_succ])
                refine anyB_take (i := 21) (oi := _) (v := undef) rfl (by kernel_rfl) (by kernel_rfl) (by kernel_rfl) (by kernel_rfl) (fun _ _ _ h => h) (Or.inr ⟨by rfl, rfl⟩) (by assumption) ?q65_11b3r22
                (try simp only [List.getElem_toArray, List.getElem_cons_succ, List.getElem_cons_zero, Act.put, List.setIfInBounds_toArray, List.set_cons_zero, List.set_cons_succ])
                refine anyB_take (i := 22) (oi := _) (v := undef) rfl (by kernel_rfl) (by kernel_rfl) (by kernel_rfl) (by kernel_rfl) (fun _ _ _ h => h) (Or.inr ⟨by rfl, rfl⟩) (by assumption) ?q65_11b3r23
                (try simp only [List.getElem_toArray, List.getElem_cons_succ, List.getElem_cons_zero, Act.put, List.setIfInBounds_toArray, List.set_cons_zero, List.set_cons_succ])
                refine anyB_take (i := 23) (oi := _) (v := undef) rfl (by kernel_rfl) (by kernel_rfl) (by kernel_rfl) (by kernel_rfl) (fun _ _ _ h => h) (Or.inr ⟨by rfl, rfl⟩) (by assumption) ?q65_11b3r24
                (try simp only [List.getElem_toArray, List.getElem_cons_succ, List.getElem_cons_zero, Act.put, List.setIfInBounds_toArray, List.set_cons_zero, List.set_cons_succ])
                refine anyB_take (i := 24) (oi := _) (v := undef) rfl (by kernel_rfl) (by kernel_rfl) (by kernel_rfl) (by kernel_rfl) (fun _ _ _ h => h) (Or.inr ⟨by rfl, rfl⟩) (by assumption) ?q65_11b3r25
                (try simp only [List.getElem_toArray, List.getElem_cons_succ, List.getElem_cons_zero, Act.put, List.setIfInBounds_toArray, List.set_cons_zero, List.set_cons_succ])
                refine anyB_take (i := 25) (oi := _) (v := undef) rfl (by kernel_rfl) (by kernel_rfl) (by kernel_rfl) (by kernel_rfl) (fun _ _ _ h => h) (Or.inr ⟨by rfl, rfl⟩) (by assumption) ?q65_11b3r26
                (try simp only [List.getElem_toArray, List.getElem_cons_succ, List.getElem_cons_zero, Act.put, List.setIfInBounds_toArray, List.set_cons_zero, List.set_cons_succ])
                refine anyB_take (i := 26) (oi := _) (v := undef) rfl (by kernel_rfl) (by kernel_rfl) (by kernel_rfl) (by kernel_rfl) (fun _ _ _ h => h) (Or.inr ⟨by rfl, rfl⟩) (by assumption) ?q65_11b3r27
                (try simp only [List.getElem_toArray, List.getElem_cons_succ, List.getElem_cons_zero, Act.put, List.setIfInBounds_toArray, List.set_cons_zero, List.set_cons_succ])
                refine anyB_take (i := 27) (oi := _) (v := undef) rfl (by kernel_rfl) (by kernel_rfl) (by kernel_rfl) (by kernel_rfl) (fun _ _ _ h => h) (Or.inr ⟨by rfl, rfl⟩) (by assumption) ?q65_11b3r28
                (try simp only [List.getElem_toArray, List.getElem_cons_succ, List.getElem_cons_zero, Act.put, List.setIfInBounds_toArray, List.set_cons_zero, List.set_cons_succ])
                refine anyB_take (i := 28) (oi := _) (v := undef) rfl (by kernel_rfl) (by kernel_rfl) (by kernel_rfl) (by kernel_rfl) (fun _ _ _ h => h) (Or.inr ⟨by rfl, rfl⟩) (by assumption) ?q65_11b3r29
                (try simp only [List.getElem_toArray, List.getElem_cons_succ, List.getElem_cons_zero, Act.put, List.setIfInBounds_toArray, List.set_cons_zero, List.set_cons_succ])
                refine anyB_take (i := 29) (oi := _) (v := undef) rfl (by kernel_rfl) (by kernel_rfl) (by kernel_rfl) (by kernel_rfl) (fun _ _ _ h => h) (Or.inr ⟨by rfl, rfl⟩) (by assumption) ?q65_11b3r30
                (try simp only [List.getElem_toArray, List.getElem_cons_succ, List.getElem_cons_zero, Act.put, List.setIfInBounds_toArray, List.set_cons_zero, List.set_cons_succ])
                refine anyB_take (i := 30) (oi := _) (v := undef) rfl (by kernel_rfl) (by kernel_rfl) (by kernel_rfl) (by kernel_rfl) (fun _ _ _ h => h) (Or.inr ⟨by rfl, rfl⟩) (by assumption) ?q65_11b3r31
                (try simp only [List.getElem_toArray, List.getElem_cons_succ, List.getElem_cons_zero, Act.put, List.setIfInBounds_toArray, List.set_cons_zero, List.set_cons_succ])
                refine anyB_take (i := 31) (oi := _) (v := undef) rfl (by kernel_rfl) (by kernel_rfl) (by kernel_rfl) (by kernel_rfl) (fun _ _ _ h => h) (Or.inr ⟨by rfl, rfl⟩) (by assumption) ?q65_11b3r32
                (try simp only [List.getElem_toArray, List.getElem_cons_succ, List.getElem_cons_zero, Act.put, List.setIfInBounds_toArray, List.set_cons_zero, List.set_cons_succ])
                refine anyB_take (i := 32) (oi := _) (v := undef) rfl (by kernel_rfl) (by kernel_rfl) (by kernel_rfl) (by kernel_rfl) (fun _ _ _ h => h) (Or.inr ⟨by rfl, rfl⟩) (by assumption) ?q65_11b3r33
                (try simp only [List.getElem_toArray, List.getElem_cons_succ, List.getElem_cons_zero, Act.put, List.setIfInBounds_toArray, List.set_cons_zero, List.set_cons_succ])
                refine anyB_take (i := 33) (oi := _) (v := ?q65_11b3v34) rfl (by kernel_rfl) (by kernel_rfl) (by kernel_rfl) (by kernel_rfl) (fun _ _ _ h => h) (Or.inl ⟨by rfl, ?q65_11b3h34⟩) (by assumption) ?q65_11b3r34
                case q65_11b3h34 => (intro w hSw; (try dsimp only at hSw); go_simp; try with_reducible rfl)
                (try simp only [List.getElem_toArray, List.getElem_cons_succ, List.getElem_cons_zero, Act.put, List.setIfInBounds_toArray, List.set_cons_zero, List.set_cons_succ])
                refine anyB_take (i := 34) (oi := _) (v := ?q65_11b3v35) rfl (by kernel_rfl) (by kernel_rfl) (by kernel_rfl) (by kernel_rfl) (fun _ _ _ h => h) (Or.inl ⟨by rfl, ?q65_11b3h35⟩) (by assumption) ?q65_11b3r35
                case q65_11b3h35 => (intro w hSw; (try dsimp only at hSw); go_simp; try with_reducible rfl)
                (try simp only [List.getElem_toArray, List.getElem_cons_succ, List.getElem_cons_zero, Act.put, List.setIfInBounds_toArray, List.set_cons_zero, List.set_cons_succ])
                refine anyB_done (by kernel_rfl) ?_ _
                go_wp2
                go_meet
                exact ⟨by rw [Hsw.out], (Out.refl _ wj).drew⟩
            case rest =>
              obtain ⟨wk, rfl⟩ : ∃ x : World, x = wc := ⟨_, rfl⟩
              obtain ⟨rfl, hxk⟩ := hcut
              have HXk := Lib.hid (HXj.out.ext hxk)
              have HZk := Lib.hid (hxk.blk HZj.out (fun f => f))
              have Huk := Lib.hid (Huj.out.ext hxk)
              clear z0 z1 z2 z3 cq
              obtain ⟨y0, y1, y2, y3, -⟩ := cells4 HZk.out
              have HsB : Hid (stayB l L e q = (sawB l e q && decide (coverE L e.key.user q.toNat ≤ e.key.seq.toNat))) := Lib.hid rfl
              clear Hsaw0 Hsaw1
              obtain ⟨sw, hsw⟩ : ∃ sw, sawB l e q = sw := ⟨_, rfl⟩
              simp only [hsw] at *
              clear hsw hxk
              cases st with
              | true =>
                go_wp2
                refine region_B 99 (fun w' => w'.cell? ⟨wo.heap.size, 0, none⟩ = some (.slice U1 N1 n1) ∧ w'.cell? ⟨wo.heap.size, 1, none⟩ = some (u64V e.key.seq)) (by kernel_rfl) ?q65_12S (fun hHeld0 => ?_)
                case q65_12S => ((first | go_keep | ((try dsimp only); exact ⟨by assumption, by assumption⟩)))
                refine anyB_take (i := 0) (oi := _) (v := ?q65_12v1) rfl (by kernel_rfl) (by kernel_rfl) (by kernel_rfl) (by kernel_rfl) (fun _ _ _ h => h) (Or.inl ⟨by rfl, ?q65_12h1⟩) (by assumption) ?q65_12r1
                case q65_12h1 => (intro w hSw; (try dsimp only at hSw); go_simp; try with_reducible rfl)
                (try simp only [List.getElem_toArray, List.getElem_cons_zero, Act.put, List.setIfInBounds_toArray, List.set_cons_zero, List.set_cons_succ])
                refine anyB_take (i := 1) (oi := _) (v := ?q65_12v2) rfl (by kernel_rfl) (by kernel_rfl) (by kernel_rfl) (by kernel_rfl) (fun _ _ _ h => h) (Or.inl ⟨by rfl, ?q65_12h2⟩) (by assumption) ?q65_12r2
                case q65_12h2 => (intro w hSw; (try dsimp only at hSw); go_simp; try with_reducible rfl)
                (try simp only [List.getElem_toArray, List.getElem_cons_succ, List.getElem_cons_zero, Act.put, List.setIfInBounds_toArray, List.set_cons_zero, List.set_cons_succ])
                refine anyB_take (i := 2) (oi := _) (v := undef) rfl (by kernel_rfl) (by kernel_rfl) (by kernel_rfl) (by kernel_rfl) (fun _ _ _ h => h) (Or.inr ⟨by rfl, rfl⟩) (by assumption) ?q65_12r3
                (try simp only [List.getElem_toArray, List.getElem_cons_succ, List.getElem_cons_zero, Act.put, List.setIfInBounds_toArray, List.set_cons_zero, List.set_cons_succ])
                refine anyB_take (i := 3) (oi := _) (v := undef) rfl (by kernel_rfl) (by kernel_rfl) (by kernel_rfl) (by kernel_rfl) (fun _ _ _ h => h) (Or.inr ⟨by rfl, rfl⟩) (by assumption) ?q65_12r4
                (try simp only [List.getElem_toArray, List.getElem_cons_succ, List.getElem_cons_zero, Act.put, List.setIfInBounds_toArray, List.set_cons_zero, List.set_cons_succ])
                refine anyB_take (i := 4) (oi := _) (v := undef) rfl (by kernel_rfl) (by kernel_rfl) (by kernel_rfl) (by kernel_rfl) (fun _ _ _ h => h) (Or.inr ⟨by rfl, rfl⟩) (by assumption) ?q65_12r5
                (try simp only [List.getElem_toArray, List.getElem_cons_succ, List.getElem_cons_zero, Act.put, List.setIfInBounds_toArray, List.set_cons_zero, List.set_cons_succ])
                refine anyB_take (i := 5) (oi := _) (v := undef) rfl (by kernel_rfl) (by kernel_rfl) (by kernel_rfl) (by kernel_rfl) (fun _ _ _ h => h) (Or.inr ⟨by rfl, rfl⟩) (by assumption) ?q65_12r6
                (try simp only [List.getElem_toArray, List.getElem_cons_succ, List.getElem_cons_zero, Act.put, List.setIfInBounds_toArray, List.set_cons_zero, List.set_cons_succ])
                refine anyB_take (i := 6) (oi := _) (v := undef) rfl (by kernel_rfl) (by kernel_rfl) (by kernel_rfl) (by kernel_rfl) (fun _ _ _ h => h) (Or.inr ⟨by rfl, rfl⟩) (by assumption) ?q65_12r7
                (try simp only [List.getElem_toArray, List.getElem_cons_succ, List.getElem_cons_zero, Act.put, List.setIfInBounds_toArray, List.set_cons_zero, List.set_cons_succ])
                refine anyB_take (i := 7) (oi := _) (v := undef) rfl (by kernel_rfl) (by kernel_rfl) (by kernel_rfl) (by kernel_rfl) (fun _ _ _ h => h) (Or.inr ⟨by rfl, rfl⟩) (by assumption) ?q65_12r8
                (try simp only [List.getElem_toArray, List.getElem_cons_succ, List.getElem_cons_zero, Act.put, List.setIfInBounds_toArray, List.set_cons_zero, List.set_cons_succ])
                refine anyB_take (i := 8) (oi := _) (v := undef) rfl (by kernel_rfl) (by kernel_rfl) (by kernel_rfl) (by kernel_rfl) (fun _ _ _ h => h) (Or.inr ⟨by rfl, rfl⟩) (by assumption) ?q65_12r9
                (try simp only [List.getElem_toArray, List.getElem_cons_succ, List.getElem_cons_zero, Act.put, List.setIfInBounds_toArray, List.set_cons_zero, List.set_cons_succ])
                refine anyB_take (i := 10) (oi := _) (v := undef) rfl (by kernel_rfl) (by kernel_rfl) (by kernel_rfl) (by kernel_rfl) (fun _ _ _ h => h) (Or.inr ⟨by rfl, rfl⟩) (by assumption) ?q65_12r10
                (try simp only [List.getElem_toArray, List.getElem_cons_succ, List.getElem_cons_zero, Act.put, List.setIfInBounds_toArray, List.set_cons_zero, List.set_cons_succ])
                refine anyB_take (i := 11) (oi := _) (v := undef) rfl (by kernel_rfl) (by kernel_rfl) (by kernel_rfl) (by kernel_rfl) (fun _ _ _ h => h) (Or.inr ⟨by rfl, rfl⟩) (by assumption) ?q65_12r11
                (try simp only [List.getElem_toArray, List.getElem_cons_succ, List.getElem_cons_zero, Act.put, List.setIfInBounds_toArray, List.set_cons_zero, List.set_cons_succ])
                refine anyB_take (i := 12) (oi := _) (v := undef) rfl (by kernel_rfl) (by kernel_rfl) (by kernel_rfl) (by kernel_rfl) (fun _ _ _ h => h) (Or.inr ⟨by rfl, rfl⟩) (by assumption) ?q65_12r12
                (try simp only [List.getElem_toArray, List.getElem_cons_succ, List.getElem_cons_zero, Act.put, List.setIfInBounds_toArray, List.set_cons_zero, List.set_cons_succ])
                refine anyB_step (i := 9) (o := _) (by kernel_rfl) (by rfl) (by (simp only [List.getElem?_toArray, List.getElem?_cons_succ, List.getElem?_cons_zero] <;> rfl)) (fun K hK => ?_)
                refine Eq.mpr (if_neg ?q65_12w13) ?_
                case q65_12w13 => (intro hw; exact absurd (show false = true from hw) (by decide))
                refine hK.out _ _ ?q65_12S13 (fun hHeld1 => ?_)
                case q65_12S13 => ((first | go_keep | ((try dsimp only); exact ⟨by assumption, by assumption⟩)))
                clear hK K hHeld0
                (try simp only [Act.put, List.setIfInBounds_toArray, List.set_cons_zero, List.set_cons_succ])
                refine anyB_take (i := 13) (oi := _) (v := undef) rfl (by kernel_rfl) (by kernel_rfl) (by kernel_rfl) (by kernel_rfl) (fun _ _ _ h => h) (Or.inr ⟨by rfl, rfl⟩) (by assumption) ?q65_12r14
                (try simp only [List.getElem_toArray, List.getElem_cons_succ, List.getElem_cons_zero, Act.put, List.setIfInBounds_toArray, List.set_cons_zero, List.set_cons_succ])
                refine anyB_take (i := 14) (oi := _) (v := undef) rfl (by kernel_rfl) (by kernel_rfl) (by kernel_rfl) (by kernel_rfl) (fun _ _ _ h => h) (Or.inr ⟨by rfl, rfl⟩) (by assumption) ?q65_12r15
                (try simp only [List.getElem_toArray, List.getElem_cons_succ, List.getElem_cons_zero, Act.put, List.setIfInBounds_toArray, List.set_cons_zero, List.set_cons_succ])
                refine anyB_take (i := 15) (oi := _) (v := ?q65_12v16) rfl (by kernel_rfl) (by kernel_rfl) (by kernel_rfl) (by kernel_rfl) (fun _ _ _ h => h) (Or.inl ⟨by rfl, ?q65_12h16⟩) (by assumption) ?q65_12r16
                case q65_12h16 => (intro w hSw; (try dsimp only at hSw); go_simp; try with_reducible rfl)
                (try simp only [List.getElem_toArray, List.getElem_cons_succ, List.getElem_cons_zero, Act.put, List.setIfInBounds_toArray, List.set_cons_zero, List.set_cons_succ])
                refine anyB_take (i := 16) (oi := _) (v := ?q65_12v17) rfl (by kernel_rfl) (by kernel_rfl) (by kernel_rfl) (by kernel_rfl) (fun _ _ _ h => h) (Or.inl ⟨by rfl, ?q65_12h17⟩) (by assumption) ?q65_12r17
                case q65_12h17 => (intro w hSw; (try dsimp only at hSw); go_simp; try with_reducible rfl)
                (try simp only [List.getElem_toArray, List.getElem_cons_succ, List.getElem_cons_zero, Act.put, List.setIfInBounds_toArray, List.set_cons_zero, List.set_cons_succ])
                refine anyB_done (by kernel_rfl) ?_ _
                go_wp2
                go_roundw
                case rel => exact ⟨j + 1, by omega, by go_num, by rw [Hnext.out]; rfl, HXk.out.drew⟩
                case measure => simp [intOf] <;> omega
              | false =>
                cases sw with
                | false =>
                  go_wp2
                  refine region_B 99 (fun w' => w'.cell? ⟨wo.heap.size, 0, none⟩ = some (.slice U1 N1 n1) ∧ w'.cell? ⟨wo.heap.size, 1, none⟩ = some (u64V e.key.seq)) (by kernel_rfl) ?q65_12b1S (fun hHeld0 => ?_)
                  case q65_12b1S => ((first | go_keep | ((try dsimp only); exact ⟨by assumption, by assumption⟩)))
                  refine anyB_take (i := 0) (oi := _) (v := ?q65_12b1v1) rfl (by kernel_rfl) (by kernel_rfl) (by kernel_rfl) (by kernel_rfl) (fun _ _ _ h => h) (Or.inl ⟨by rfl, ?q65_12b1h1⟩) (by assumption) ?q65_12b1r1
                  case q65_12b1h1 => (intro w hSw; (try dsimp only at hSw); go_simp; try with_reducible rfl)
                  (try simp only [List.getElem_toArray, List.getElem_cons_zero, Act.put, List.setIfInBounds_toArray, List.set_cons_zero, List.set_cons_succ])
                  refine anyB_take (i := 1) (oi := _) (v := ?q65_12b1v2) rfl (by kernel_rfl) (by kernel_rfl) (by kernel_rfl) (by kernel_rfl) (fun _ _ _ h => h) (Or.inl ⟨by rfl, ?q65_12b1h2⟩) (by assumption) ?q65_12b1r2
                  case q65_12b1h2 => (intro w hSw; (try dsimp only at hSw); go_simp; try with_reducible rfl)
                  (try simp only [List.getElem_toArray, List.getElem_cons_succ, List.getElem_cons_zero, Act.put, List.setIfInBounds_toArray, List.set_cons_zero, List.set_cons_succ])
                  refine anyB_take (i := 2) (oi := _) (v := ?q65_12b1v3) rfl (by kernel_rfl) (by kernel_rfl) (by kernel_rfl) (by kernel_rfl) (fun _ _ _ h => h) (Or.inl ⟨by rfl, ?q65_12b1h3⟩) (by assumption) ?q65_12b1r3
                  case q65_12b1h3 => (intro w hSw; (try dsimp only at hSw); go_simp; try with_reducible rfl)
                  (try simp only [List.getElem_toArray, List.getElem_cons_succ, List.getElem_cons_zero, Act.put, List.setIfInBounds_toArray, List.set_cons_zero, List.set_cons_succ])
                  refine anyB_take (i := 3) (oi := _) (v := ?q65_12b1v4) rfl (by kernel_rfl) (by kernel_rfl) (by kernel_rfl) (by kernel_rfl) (fun _ _ _ h => h) (Or.inl ⟨by rfl, ?q65_12b1h4⟩) (by assumption) ?q65_12b1r4
                  case q65_12b1h4 => (intro w hSw; (try dsimp only at hSw); go_simp; try with_reducible rfl)
                  (try simp only [List.getElem_toArray, List.getElem_cons_succ, List.getElem_cons_zero, Act.put, List.setIfInBounds_toArray, List.set_cons_zero, List.set_cons_succ])
                  refine anyB_take (i := 4) (oi := _) (v := undef) rfl (by kernel_rfl) (by kernel_rfl) (by kernel_rfl) (by kernel_rfl) (fun _ _ _ h => h) (Or.inr ⟨by rfl, rfl⟩) (by assumption) ?q65_12b1r5
                  (try simp only [List.getElem_toArray, List.getElem_cons_succ, List.getElem_cons_zero, Act.put, List.setIfInBounds_toArray, List.set_cons_zero, List.set_cons_succ])
                  refine anyB_take (i := 5) (oi := _) (v := undef) rfl (by kernel_rfl) (by kernel_rfl) (by kernel_rfl) (by kernel_rfl) (fun _ _ _ h => h) (Or.inr ⟨by rfl, rfl⟩) (by assumption) ?q65_12b1r6
                  (try simp only [List.getElem_toArray, List.getElem_cons_succ, List.getElem_cons_zero, Act.put, List.setIfInBounds_toArray, List.set_cons_zero, List.set_cons_succ])
                  refine anyB_take (i := 6) (oi := _) (v := undef) rfl (by kernel_rfl) (by kernel_rfl) (by kernel_rfl) (by kernel_rfl) (fun _ _ _ h => h) (Or.inr ⟨by rfl, rfl⟩) (by assumption) ?q65_12b1r7
                  (try simp only [List.getElem_toArray, List.getElem_cons_succ, List.getElem_cons_zero, Act.put, List.setIfInBounds_toArray, List.set_cons_zero, List.set_cons_succ])
                  refine anyB_take (i := 7) (oi := _) (v := undef) rfl (by kernel_rfl) (by kernel_rfl) (by kernel_rfl) (by kernel_rfl) (fun _ _ _ h => h) (Or.inr ⟨by rfl, rfl⟩) (by assumption) ?q65_12b1r8
                  (try simp only [List.getElem_toArray, List.getElem_cons_succ, List.getElem_cons_zero, Act.put, List.setIfInBounds_toArray, List.set_cons_zero, List.set_cons_succ])
                  refine anyB_take (i := 8) (oi := _) (v := undef) rfl (by kernel_rfl) (by kernel_rfl) (by kernel_rfl) (by kernel_rfl) (fun _ _ _ h => h) (Or.inr ⟨by rfl, rfl⟩) (by assumption) ?q65_12b1r9
                  (try simp only [List.getElem_toArray, List.getElem_cons_succ, List.getElem_cons_zero, Act.put, List.setIfInBounds_toArray, List.set_cons_zero, List.set_cons_succ])
                  refine anyB_take (i := 10) (oi := _) (v := undef) rfl (by kernel_rfl) (by kernel_rfl) (by kernel_rfl) (by kernel_rfl) (fun _ _ _ h => h) (Or.inr ⟨by rfl, rfl⟩) (by assumption) ?q65_12b1r10
                  (try simp only [List.getElem_toArray, List.getElem_cons_succ, List.getElem_cons_zero, Act.put, List.setIfInBounds_toArray, List.set_cons_zero, List.set_cons_succ])
                  refine anyB_take (i := 11) (oi := _) (v := undef) rfl (by kernel_rfl) (by kernel_rfl) (by kernel_rfl) (by kernel_rfl) (fun _ _ _ h => h) (Or.inr ⟨by rfl, rfl⟩) (by assumption) ?q65_12b1r11
                  (try simp only [List.getElem_toArray, List.getElem_cons_succ, List.getElem_cons_zero, Act.put, List.setIfInBounds_toArray, List.set_cons_zero, List.set_cons_succ])
                  refine anyB_take (i := 12) (oi := _) (v := undef) rfl (by kernel_rfl) (by kernel_rfl) (by kernel_rfl) (by kernel_rfl) (fun _ _ _ h => h) (Or.inr ⟨by rfl, rfl⟩) (by assumption) ?q65_12b1r12
                  (try simp only [List.getElem_toArray, List.getElem_cons_succ, List.getElem_cons_zero, Act.put, List.setIfInBounds_toArray, List.set_cons_zero, List.set_cons_succ])
                  refine anyB_step (i := 9) (o := _) (by kernel_rfl) (by rfl) (by (simp only [List.getElem?_toArray, List.getElem?_cons_succ, List.getElem?_cons_zero] <;> rfl)) (fun K hK => ?_)
                  refine Eq.mpr (if_neg ?q65_12b1w13) ?_
                  case q65_12b1w13 => (intro hw; exact absurd (show false = true from hw) (by decide))
                  refine hK.out _ _ ?q65_12b1S13 (fun hHeld1 => ?_)
                  case q65_12b1S13 => ((first | go_keep | ((try dsimp only); exact ⟨by assumption, by assumption⟩)))
                  clear hK K hHeld0
                  (try simp only [Act.put, List.setIfInBounds_toArray, List.set_cons_zero, List.set_cons_succ])
                  refine anyB_take (i := 13) (oi := _) (v := undef) rfl (by kernel_rfl) (by kernel_rfl) (by kernel_rfl) (by kernel_rfl) (fun _ _ _ h => h) (Or.inr ⟨by rfl, rfl⟩) (by assumption) ?q65_12b1r14
                  (try simp only [List.getElem_toArray, List.getElem_cons_succ, List.getElem_cons_zero, Act.put, List.setIfInBounds_toArray, List.set_cons_zero, List.set_cons_succ])
                  refine anyB_take (i := 14) (oi := _) (v := ?q65_12b1v15) rfl (by kernel_rfl) (by kernel_rfl) (by kernel_rfl) (by kernel_rfl) (fun _ _ _ h => h) (Or.inl ⟨by rfl, ?q65_12b1h15⟩) (by assumption) ?q65_12b1r15
                  case q65_12b1h15 => (intro w hSw; (try dsimp only at hSw); go_simp; try with_reducible rfl)
                  (try simp only [List.getElem_toArray, List.getElem_cons_succ, List.getElem_cons_zero, Act.put, List.setIfInBounds_toArray, List.set_cons_zero, List.set_cons_succ])
                  refine anyB_take (i := 15) (oi := _) (v := ?q65_12b1v16) rfl (by kernel_rfl) (by kernel_rfl) (by kernel_rfl) (by kernel_rfl) (fun _ _ _ h => h) (Or.inl ⟨by rfl, ?q65_12b1h16⟩) (by assumption) ?q65_12b1r16
                  case q65_12b1h16 => (intro w hSw; (try dsimp only at hSw); go_simp; try with_reducible rfl)
                  (try simp only [List.getElem_toArray, List.getElem_cons_succ, List.getElem_cons_zero, Act.put, List.setIfInBounds_toArray, List.set_cons_zero, List.set_cons_succ])
                  refine anyB_take (i := 16) (oi := _) (v := ?q65_12b1v17) rfl (by kernel_rfl) (by kernel_rfl) (by kernel_rfl) (by kernel_rfl) (fun _ _ _ h => h) (Or.inl ⟨by rfl, ?q65_12b1h17⟩) (by assumption) ?q65_12b1r17
                  case q65_12b1h17 => (intro w hSw; (try dsimp only at hSw); go_simp; try with_reducible rfl)
                  (try simp only [List.getElem_toArray, List.getElem_cons_succ, List.getElem_cons_zero, Act.put, List.setIfInBounds_toArray, List.set_cons_zero, List.set_cons_succ])
                  refine anyB_done (by kernel_rfl) ?_ _
                  go_wp2
                  go_roundw
                  case rel => exact ⟨j + 1, by omega, by go_num, by rw [Hnext.out, HsB.out]; rfl, HXk.out.drew⟩
                  case measure => simp [intOf] <;> omega
                | true =>
                  have HCv := Lib.hid (r9_cover wk.drew L (((Hs.out.ext (HX3.out.ext HXk.out))).drew) e.key.user Huk.out.drew q.toNat)
                  obtain ⟨cv, hcv⟩ : ∃ cv, coverE L e.key.user q.toNat = cv := ⟨_, rfl⟩
                  rw [hcv] at HCv HsB
                  clear hcv
                  go_wp2
                  refine region_B 99 (fun w' => w'.cell? ⟨wo.heap.size, 0, none⟩ = some (.slice U1 N1 n1) ∧ w'.cell? ⟨wo.heap.size, 1, none⟩ = some (u64V e.key.seq)) (by kernel_rfl) ?q65_12b2S (fun hHeld0 => ?_)
                  case q65_12b2S => ((first | go_keep | ((try dsimp only); exact ⟨by assumption, by assumption⟩)))
                  refine anyB_take (i := 0) (oi := _) (v := ?q65_12b2v1) rfl (by kernel_rfl) (by kernel_rfl) (by kernel_rfl) (by kernel_rfl) (fun _ _ _ h => h) (Or.inl ⟨by rfl, ?q65_12b2h1⟩) (by assumption) ?q65_12b2r1
                  case q65_12b2h1 => (intro w hSw; (try dsimp only at hSw); go_simp; try with_reducible rfl)
                  (try simp only [List.getElem_toArray, List.getElem_cons_zero, Act.put, List.setIfInBounds_toArray, List.set_cons_zero, List.set_cons_succ])
                  refine anyB_take (i := 1) (oi := _) (v := ?q65_12b2v2) rfl (by kernel_rfl) (by kernel_rfl) (by kernel_rfl) (by kernel_rfl) (fun _ _ _ h => h) (Or.inl ⟨by rfl, ?q65_12b2h2⟩) (by assumption) ?q65_12b2r2
                  case q65_12b2h2 => (intro w hSw; (try dsimp only at hSw); go_simp; try with_reducible rfl)
                  (try simp only [List.getElem_toArray, List.getElem_cons_succ, List.getElem_cons_zero, Act.put, List.setIfInBounds_toArray, List.set_cons_zero, List.set_cons_succ])
                  refine anyB_take (i := 2) (oi := _) (v := ?q65_12b2v3) rfl (by kernel_rfl) (by kernel_rfl) (by kernel_rfl) (by kernel_rfl) (fun _ _ _ h => h) (Or.inl ⟨by rfl, ?q65_12b2h3⟩) (by assumption) ?q65_12b2r3
                  case q65_12b2h3 => (intro w hSw; (try dsimp only at hSw); go_simp; try with_reducible rfl)
                  (try simp only [List.getElem_toArray, List.getElem_cons_succ, List.getElem_cons_zero, Act.put, List.setIfInBounds_toArray, List.set_cons_zero, List.set_cons_succ])
                  refine anyB_take (i := 3) (oi := _) (v := ?q65_12b2v4) rfl (by kernel_rfl) (by kernel_rfl) (by kernel_rfl) (by kernel_rfl) (fun _ _ _ h => h) (Or.inl ⟨by rfl, ?q65_12b2h4⟩) (by assumption) ?q65_12b2r4
                  case q65_12b2h4 => (intro w hSw; (try dsimp only at hSw); go_simp; try with_reducible rfl)
                  (try simp only [List.getElem_toArray, List.getElem_cons_succ, List.getElem_cons_zero, Act.put, List.setIfInBounds_toArray, List.set_cons_zero, List.set_cons_succ])
                  refine anyB_take (i := 4) (oi := _) (v := ?q65_12b2v5) rfl (by kernel_rfl) (by kernel_rfl) (by kernel_rfl) (by kernel_rfl) (fun _ _ _ h => h) (Or.inl ⟨by rfl, ?q65_12b2h5⟩) (by assumption) ?q65_12b2r5
                  case q65_12b2h5 => (intro w hSw; (try dsimp only at hSw); go_simp; try with_reducible rfl)
                  (try simp only [List.getElem_toArray, List.getElem_cons_succ, List.getElem_cons_zero, Act.put, List.setIfInBounds_toArray, List.set_cons_zero, List.set_cons_succ])
                  refine anyB_take (i := 5) (oi := _) (v := ?q65_12b2v6) rfl (by kernel_rfl) (by kernel_rfl) (by kernel_rfl) (by kernel_rfl) (fun _ _ _ h => h) (Or.inl ⟨by rfl, ?q65_12b2h6⟩) (by assumption) ?q65_12b2r6
                  case q65_12b2h6 => (intro w hSw; (try dsimp only at hSw); go_simp; try with_reducible rfl)
                  (try simp only [List.getElem_toArray, List.getElem_cons_succ, List.getElem_cons_zero, Act.put, List.setIfInBounds_toArray, List.set_cons_zero, List.set_cons_succ])
                  refine anyB_take (i := 6) (oi := _) (v := ?q65_12b2v7) rfl (by kernel_rfl) (by kernel_rfl) (by kernel_rfl) (by kernel_rfl) (fun _ _ _ h => h) (Or.inl ⟨by rfl, ?q65_12b2h7⟩) (by assumption) ?q65_12b2r7
                  case q65_12b2h7 => (intro w hSw; (try dsimp only at hSw); go_simp; try with_reducible rfl)
                  (try simp only [List.getElem_toArray, List.getElem_cons_succ, List.getElem_cons_zero, Act.put, List.setIfInBounds_toArray, List.set_cons_zero, List.set_cons_succ])
                  refine anyB_take (i := 7) (oi := _) (v := ?q65_12b2v8) rfl (by kernel_rfl) (by kernel_rfl) (by kernel_rfl) (by kernel_rfl) (fun _ _ _ h => h) (Or.inl ⟨by rfl, ?q65_12b2h8⟩) (by assumption) ?q65_12b2r8
                  case q65_12b2h8 => (intro w hSw; (try dsimp only at hSw); go_simp; try with_reducible rfl)
                  (try simp only [List.getElem_toArray, List.getElem_cons_succ, List.getElem_cons_zero, Act.put, List.setIfInBounds_toArray, List.set_cons_zero, List.set_cons_succ])
                  refine anyB_take (i := 8) (oi := _) (v := ?q65_12b2v9) rfl (by kernel_rfl) (by kernel_rfl) (by kernel_rfl) (by kernel_rfl) (fun _ _ _ h => h) (Or.inl ⟨by rfl, ?q65_12b2h9⟩) (by assumption) ?q65_12b2r9
                  case q65_12b2h9 => (intro w hSw; (try dsimp only at hSw); go_simp; try with_reducible rfl)
                  (try simp only [List.getElem_toArray, List.getElem_cons_succ, List.getElem_cons_zero, Act.put, List.setIfInBounds_toArray, List.set_cons_zero, List.set_cons_succ])
                  refine anyB_take (i := 10) (oi := _) (v := ?q65_12b2v10) rfl (by kernel_rfl) (by kernel_rfl) (by kernel_rfl) (by kernel_rfl) (fun _ _ _ h => h) (Or.inl ⟨by rfl, ?q65_12b2h10⟩) (by assumption) ?q65_12b2r10
                  case q65_12b2h10 => (intro w hSw; (try dsimp only at hSw); go_simp; try with_reducible rfl)
                  (try simp only [List.getElem_toArray, List.getElem_cons_succ, List.getElem_cons_zero, Act.put, List.setIfInBounds_toArray, List.set_cons_zero, List.set_cons_succ])
                  refine anyB_take (i := 11) (oi := _) (v := ?q65_12b2v11) rfl (by kernel_rfl) (by kernel_rfl) (by kernel_rfl) (by kernel_rfl) (fun _ _ _ h => h) (Or.inl ⟨by rfl, ?q65_12b2h11⟩) (by assumption) ?q65_12b2r11
                  case q65_12b2h11 => (intro w hSw; (try dsimp only at hSw); go_simp; try with_reducible rfl)
                  (try simp only [List.getElem_toArray, List.getElem_cons_succ, List.getElem_cons_zero, Act.put, List.setIfInBounds_toArray, List.set_cons_zero, List.set_cons_succ])
                  refine anyB_take (i := 12) (oi := _) (v := ?q65_12b2v12) rfl (by kernel_rfl) (by kernel_rfl) (by kernel_rfl) (by kernel_rfl) (fun _ _ _ h => h) (Or.inl ⟨by rfl, ?q65_12b2h12⟩) (by assumption) ?q65_12b2r12
                  case q65_12b2h12 => (intro w hSw; (try dsimp only at hSw); go_simp; try with_reducible rfl)
                  (try simp only [List.getElem_toArray, List.getElem_cons_succ, List.getElem_cons_zero, Act.put, List.setIfInBounds_toArray, List.set_cons_zero, List.set_cons_succ])
                  refine anyB_step (i := 9) (o := _) (by kernel_rfl) (by rfl) (by (simp only [List.getElem?_toArray, List.getElem?_cons_succ, List.getElem?_cons_zero] <;> rfl)) (fun K hK => ?_)
                  rw [if_pos (by rfl)]
                  go_simp; go_at_call 129; refine HCv.out.mono ?_; rintro r w4 ⟨rfl, hx4⟩; obtain ⟨x0, x1, x2', x3', -⟩ := cells4 (hx4.blk (show (World.drew _).heap[_]? = _ from HZk.out) (fun f => f)); have HX4 := Lib.hid (HXk.out.drew.ext hx4); clear hx4
                  (try dsimp only)
                  refine hK.out _ _ ?q65_12b2S13 (fun hHeld1 => ?_)
                  case q65_12b2S13 => ((first | go_keep | ((try dsimp only); exact ⟨by assumption, by assumption⟩)))
                  clear hK K hHeld0
                  (try simp only [List.getElem_toArray, List.getElem_cons_succ, List.getElem_cons_zero, Act.put, List.setIfInBounds_toArray, List.set_cons_zero, List.set_cons_succ])
                  refine anyB_take (i := 13) (oi := _) (v := ?q65_12b2v14) rfl (by kernel_rfl) (by kernel_rfl) (by kernel_rfl) (by kernel_rfl) (fun _ _ _ h => h) (Or.inl ⟨by rfl, ?q65_12b2h14⟩) (by assumption) ?q65_12b2r14
                  case q65_12b2h14 => (intro w hSw; (try dsimp only at hSw); go_simp; try with_reducible rfl)
                  (try simp only [List.getElem_toArray, List.getElem_cons_succ, List.getElem_cons_zero, Act.put, List.setIfInBounds_toArray, List.set_cons_zero, List.set_cons_succ])
                  refine anyB_take (i := 14) (oi := _) (v := ?q65_12b2v15) rfl (by kernel_rfl) (by kernel_rfl) (by kernel_rfl) (by kernel_rfl) (fun _ _ _ h => h) (Or.inl ⟨by rfl, ?q65_12b2h15⟩) (by assumption) ?q65_12b2r15
                  case q65_12b2h15 => (intro w hSw; (try dsimp only at hSw); go_simp; try with_reducible rfl)
                  (try simp only [List.getElem_toArray, List.getElem_cons_succ, List.getElem_cons_zero, Act.put, List.setIfInBounds_toArray, List.set_cons_zero, List.set_cons_succ])
                  refine anyB_take (i := 15) (oi := _) (v := ?q65_12b2v16) rfl (by kernel_rfl) (by kernel_rfl) (by kernel_rfl) (by kernel_rfl) (fun _ _ _ h => h) (Or.inl ⟨by rfl, ?q65_12b2h16⟩) (by assumption) ?q65_12b2r16
                  case q65_12b2h16 => (intro w hSw; (try dsimp only at hSw); go_simp; try with_reducible rfl)
                  (try simp only [List.getElem_toArray, List.getElem_cons_succ, List.getElem_cons_zero, Act.put, List.setIfInBounds_toArray, List.set_cons_zero, List.set_cons_succ])
                  refine anyB_take (i := 16) (oi := _) (v := ?q65_12b2v17) rfl (by kernel_rfl) (by kernel_rfl) (by kernel_rfl) (by kernel_rfl) (fun _ _ _ h => h) (Or.inl ⟨by rfl, ?q65_12b2h17⟩) (by assumption) ?q65_12b2r17
                  case q65_12b2h17 => (intro w hSw; (try dsimp only at hSw); go_simp; try with_reducible rfl)
                  (try simp only [List.getElem_toArray, List.getElem_cons_succ, List.getElem_cons_zero, Act.put, List.setIfInBounds_toArray, List.set_cons_zero, List.set_cons_succ])
                  refine anyB_done (by kernel_rfl) ?_ _
                  go_wp2
                  go_roundw
                  case rel => exact ⟨j + 1, by omega, by go_num, (by rw [Hnext.out, HsB.out]; try (congr 1; try simp)), HX4.out⟩
                  case measure => simp [intOf] <;> omega
          · obtain rfl : j = qs2.length := by omega
            obtain ⟨st, hst⟩ : ∃ st, (qs2.take qs2.length).any (stayB l L e) = st := ⟨_, rfl⟩
            simp only [hst]
            rw [List.take_length, ← Hst.out] at hst
            rw [hst] at Hno Hyes
            have HKj := Lib.hid (HK.out.ext HXj.out)
            clear hst Hst Hsaw0 Hsaw1
            go_upto_region 14 with (fail)
            go_cut [18] (fun s18 wx => s18 = .bool (headSame Kr e) ∧ Ext wj wx)
            case first =>
              by_cases h0 : Kr.length = 0
              · have Hh := Lib.hid (headSame_none h0 e)
                have hn1 : ¬ (0 : Int) < (Kr.length : Int) := by omega
                have hn2 : ¬ 0 < Kr.length := by omega
                clear h0
                refine region_B 99 (fun w' => w'.cell? ⟨wo.heap.size, 0, none⟩ = some (.slice U1 N1 n1) ∧ w'.cell? ⟨wo.heap.size, 1, none⟩ = some (u64V e.key.seq)) (by kernel_rfl) ?q65_14S (fun hHeld0 => ?_)
                case q65_14S => ((first | go_keep | ((try dsimp only); exact ⟨by assumption, by assumption⟩)))
                refine anyB_take (i := 0) (oi := _) (v := ?q65_14v1) rfl (by kernel_rfl) (by kernel_rfl) (by kernel_rfl) (by kernel_rfl) (fun _ _ _ h => h) (Or.inl ⟨by rfl, ?q65_14h1⟩) (by assumption) ?q65_14r1
                case q65_14h1 => (intro w hSw; (try dsimp only at hSw); go_simp; try with_reducible rfl)
                (try simp only [List.getElem_toArray, List.getElem_cons_zero, Act.put, List.setIfInBounds_toArray, List.set_cons_zero, List.set_cons_succ])
                refine anyB_take (i := 1) (oi := _) (v := ?q65_14v2) rfl (by kernel_rfl) (by kernel_rfl) (by kernel_rfl) (by kernel_rfl) (fun _ _ _ h => h) (Or.inl ⟨by rfl, ?q65_14h2⟩) (by assumption) ?q65_14r2
                case q65_14h2 => (intro w hSw; (try dsimp only at hSw); go_simp; try with_reducible rfl)
                (try simp only [List.getElem_toArray, List.getElem_cons_succ, List.getElem_cons_zero, Act.put, List.setIfInBounds_toArray, List.set_cons_zero, List.set_cons_succ])
                refine anyB_take (i := 2) (oi := _) (v := ?q65_14v3) rfl (by kernel_rfl) (by kernel_rfl) (by kernel_rfl) (by kernel_rfl) (fun _ _ _ h => h) (Or.inl ⟨by rfl, ?q65_14h3⟩) (by assumption) ?q65_14r3
                case q65_14h3 => (intro w hSw; (try dsimp only at hSw); go_simp; try with_reducible rfl)
                (try simp only [List.getElem_toArray, List.getElem_cons_succ, List.getElem_cons_zero, Act.put, List.setIfInBounds_toArray, List.set_cons_zero, List.set_cons_succ])
                refine anyB_take (i := 3) (oi := _) (v := ?q65_14v4) rfl (by kernel_rfl) (by kernel_rfl) (by kernel_rfl) (by kernel_rfl) (fun _ _ _ h => h) (Or.inl ⟨by rfl, ?q65_14h4⟩) (by assumption) ?q65_14r4
                case q65_14h4 => (intro w hSw; (try dsimp only at hSw); go_simp; try with_reducible rfl)
                (try simp only [List.getElem_toArray, List.getElem_cons_succ, List.getElem_cons_zero, Act.put, List.setIfInBounds_toArray, List.set_cons_zero, List.set_cons_succ])
                refine anyB_take (i := 4) (oi := _) (v := undef) rfl (by kernel_rfl) (by kernel_rfl) (by kernel_rfl) (by kernel_rfl) (fun _ _ _ h => h) (Or.inr ⟨by rfl, rfl⟩) (by assumption) ?q65_14r5
                (try simp only [List.getElem_toArray, List.getElem_cons_succ, List.getElem_cons_zero, Act.put, List.setIfInBounds_toArray, List.set_cons_zero, List.set_cons_succ])
                refine anyB_take (i := 5) (oi := _) (v := undef) rfl (by kernel_rfl) (by kernel_rfl) (by kernel_rfl) (by kernel_rfl) (fun _ _ _ h => h) (Or.inr ⟨by rfl, rfl⟩) (by assumption) ?q65_14r6
                (try simp only [List.getElem_toArray, List.getElem_cons_succ, List.getElem_cons_zero, Act.put, List.setIfInBounds_toArray, List.set_cons_zero, List.set_cons_succ])
                refine anyB_take (i := 6) (oi := _) (v := undef) rfl (by kernel_rfl) (by kernel_rfl) (by kernel_rfl) (by kernel_rfl) (fun _ _ _ h => h) (Or.inr ⟨by rfl, rfl⟩) (by assumption) ?q65_14r7
                (try simp only [List.getElem_toArray, List.getElem_cons_succ, List.getElem_cons_zero, Act.put, List.setIfInBounds_toArray, List.set_cons_zero, List.set_cons_succ])
                refine anyB_take (i := 7) (oi := _) (v := undef) rfl (by kernel_rfl) (by kernel_rfl) (by kernel_rfl) (by kernel_rfl) (fun _ _ _ h => h) (Or.inr ⟨by rfl, rfl⟩) (by assumption) ?q65_14r8
                (try simp only [List.getElem_toArray, List.getElem_cons_succ, List.getElem_cons_zero, Act.put, List.setIfInBounds_toArray, List.set_cons_zero, List.set_cons_succ])
                refine anyB_take (i := 8) (oi := _) (v := undef) rfl (by kernel_rfl) (by kernel_rfl) (by kernel_rfl) (by kernel_rfl) (fun _ _ _ h => h) (Or.inr ⟨by rfl, rfl⟩) (by assumption) ?q65_14r9
                (try simp only [List.getElem_toArray, List.getElem_cons_succ, List.getElem_cons_zero, Act.put, List.setIfInBounds_toArray, List.set_cons_zero, List.set_cons_succ])
                refine anyB_take (i := 9) (oi := _) (v := undef) rfl (by kernel_rfl) (by kernel_rfl) (by kernel_rfl) (by kernel_rfl) (fun _ _ _ h => h) (Or.inr ⟨by rfl, rfl⟩) (by assumption) ?q65_14r10
                (try simp only [List.getElem_toArray, List.getElem_cons_succ, List.getElem_cons_zero, Act.put, List.setIfInBounds_toArray, List.set_cons_zero, List.set_cons_succ])
                refine anyB_take (i := 10) (oi := _) (v := undef) rfl (by kernel_rfl) (by kernel_rfl) (by kernel_rfl) (by kernel_rfl) (fun _ _ _ h => h) (Or.inr ⟨by rfl, rfl⟩) (by assumption) ?q65_14r11
                (try simp only [List.getElem_toArray, List.getElem_cons_succ, List.getElem_cons_zero, Act.put, List.setIfInBounds_toArray, List.set_cons_zero, List.set_cons_succ])
                refine anyB_take (i := 11) (oi := _) (v := undef) rfl (by kernel_rfl) (by kernel_rfl) (by kernel_rfl) (by kernel_rfl) (fun _ _ _ h => h) (Or.inr ⟨by rfl, rfl⟩) (by assumption) ?q65_14r12
                (try simp only [List.getElem_toArray, List.getElem_cons_succ, List.getElem_cons_zero, Act.put, List.setIfInBounds_toArray, List.set_cons_zero, List.set_cons_succ])
                refine anyB_step (i := 12) (o := _) (by kernel_rfl) (by rfl) (by (simp only [List.getElem?_toArray, List.getElem?_cons_succ, List.getElem?_cons_zero] <;> rfl)) (fun K hK => ?_)
                refine Eq.mpr (if_neg ?q65_14w13) ?_
                case q65_14w13 => (intro hw; exact absurd (show false = true from hw) (by decide))
                refine hK.out _ _ ?q65_14S13 (fun hHeld1 => ?_)
                case q65_14S13 => ((first | go_keep | ((try dsimp only); exact ⟨by assumption, by assumption⟩)))
                clear hK K hHeld0
                (try simp only [Act.put, List.setIfInBounds_toArray, List.set_cons_zero, List.set_cons_succ])
                refine anyB_take (i := 13) (oi := _) (v := ?q65_14v14) rfl (by kernel_rfl) (by kernel_rfl) (by kernel_rfl) (by kernel_rfl) (fun _ _ _ h => h) (Or.inl ⟨by rfl, ?q65_14h14⟩) (by assumption) ?q65_14r14
                case q65_14h14 => (intro w hSw; (try dsimp only at hSw); go_simp; try with_reducible rfl)
                (try simp only [List.getElem_toArray, List.getElem_cons_succ, List.getElem_cons_zero, Act.put, List.setIfInBounds_toArray, List.set_cons_zero, List.set_cons_succ])
                refine anyB_take (i := 14) (oi := _) (v := ?q65_14v15) rfl (by kernel_rfl) (by kernel_rfl) (by kernel_rfl) (by kernel_rfl) (fun _ _ _ h => h) (Or.inl ⟨by rfl, ?q65_14h15⟩) (by assumption) ?q65_14r15
                case q65_14h15 => (intro w hSw; (try dsimp only at hSw); go_simp; try with_reducible rfl)
                (try simp only [List.getElem_toArray, List.getElem_cons_succ, List.getElem_cons_zero, Act.put, List.setIfInBounds_toArray, List.set_cons_zero, List.set_cons_succ])
                refine anyB_done (by kernel_rfl) ?_ _
                go_wp2
                go_meet
                exact ⟨by rw [Hh.out], (Out.refl _ wj).drew⟩
              · have hpos : 0 < Kr.length := by omega
                have Hh := Lib.hid (headSame_get hpos e)
                obtain ⟨b2, o2, u2, v2, hY, -, d0, d1, d2, d3, hu2, hv2⟩ := HKj.out.ent 0 hpos
                subst hY
                simp only [Nat.zero_mul, Nat.add_zero] at d0
                obtain ⟨U2, N2, n2, rfl⟩ := hu2.form0
                have HC := Lib.hid (r1_same wj.drew hu2.drew Huj.out.drew)
                have hn1 : (0 : Int) < (Kr.length : Int) := by omega
                rw [← Hh.out] at HC
                clear hu2 hv2 d1 d2 d3 h0
                refine region_B 99 (fun w' => w'.cell? ⟨b2, o2, none⟩ = some (.slice U2 N2 n2) ∧ w'.cell? ⟨wo.heap.size, 0, none⟩ = some (.slice U1 N1 n1)) (by kernel_rfl) ?q65_14b1S (fun hHeld0 => ?_)
                case q65_14b1S => ((first | go_keep | ((try dsimp only); exact ⟨by assumption, by assumption⟩)))
                refine anyB_take (i := 0) (oi := _) (v := ?q65_14b1v1) rfl (by kernel_rfl) (by kernel_rfl) (by kernel_rfl) (by kernel_rfl) (fun _ _ _ h => h) (Or.inl ⟨by rfl, ?q65_14b1h1⟩) (by assumption) ?q65_14b1r1
                case q65_14b1h1 => (intro w hSw; (try dsimp only at hSw); go_simp; try with_reducible rfl)
                (try simp only [List.getElem_toArray, List.getElem_cons_zero, Act.put, List.setIfInBounds_toArray, List.set_cons_zero, List.set_cons_succ])
                refine anyB_take (i := 1) (oi := _) (v := ?q65_14b1v2) rfl (by kernel_rfl) (by kernel_rfl) (by kernel_rfl) (by kernel_rfl) (fun _ _ _ h => h) (Or.inl ⟨by rfl, ?q65_14b1h2⟩) (by assumption) ?q65_14b1r2
                case q65_14b1h2 => (intro w hSw; (try dsimp only at hSw); go_simp; try with_reducible rfl)
                (try simp only [List.getElem_toArray, List.getElem_cons_succ, List.getElem_cons_zero, Act.put, List.setIfInBounds_toArray, List.set_cons_zero, List.set_cons_succ])
                refine anyB_take (i := 2) (oi := _) (v := ?q65_14b1v3) rfl (by kernel_rfl) (by kernel_rfl) (by kernel_rfl) (by kernel_rfl) (fun _ _ _ h => h) (Or.inl ⟨by rfl, ?q65_14b1h3⟩) (by assumption) ?q65_14b1r3
                case q65_14b1h3 => (intro w hSw; (try dsimp only at hSw); go_simp; try with_reducible rfl)
                (try simp only [List.getElem_toArray, List.getElem_cons_succ, List.getElem_cons_zero, Act.put, List.setIfInBounds_toArray, List.set_cons_zero, List.set_cons_succ])
                refine anyB_take (i := 3) (oi := _) (v := ?q65_14b1v4) rfl (by kernel_rfl) (by kernel_rfl) (by kernel_rfl) (by kernel_rfl) (fun _ _ _ h => h) (Or.inl ⟨by rfl, ?q65_14b1h4⟩) (by assumption) ?q65_14b1r4
                case q65_14b1h4 => (intro w hSw; (try dsimp only at hSw); go_simp; try with_reducible rfl)
                (try simp only [List.getElem_toArray, List.getElem_cons_succ, List.getElem_cons_zero, Act.put, List.setIfInBounds_toArray, List.set_cons_zero, List.set_cons_succ])
                refine anyB_take (i := 4) (oi := _) (v := ?q65_14b1v5) rfl (by kernel_rfl) (by kernel_rfl) (by kernel_rfl) (by kernel_rfl) (fun _ _ _ h => h) (Or.inl ⟨by rfl, ?q65_14b1h5⟩) (by assumption) ?q65_14b1r5
                case q65_14b1h5 => (intro w hSw; (try dsimp only at hSw); go_simp; try with_reducible rfl)
                (try simp only [List.getElem_toArray, List.getElem_cons_succ, List.getElem_cons_zero, Act.put, List.setIfInBounds_toArray, List.set_cons_zero, List.set_cons_succ])
                refine anyB_take (i := 5) (oi := _) (v := ?q65_14b1v6) rfl (by kernel_rfl) (by kernel_rfl) (by kernel_rfl) (by kernel_rfl) (fun _ _ _ h => h) (Or.inl ⟨by rfl, ?q65_14b1h6⟩) (by assumption) ?q65_14b1r6
                case q65_14b1h6 => (intro w hSw; (try dsimp only at hSw); go_simp; try with_reducible rfl)
                (try simp only [List.getElem_toArray, List.getElem_cons_succ, List.getElem_cons_zero, Act.put, List.setIfInBounds_toArray, List.set_cons_zero, List.set_cons_succ])
                refine anyB_take (i := 6) (oi := _) (v := ?q65_14b1v7) rfl (by kernel_rfl) (by kernel_rfl) (by kernel_rfl) (by kernel_rfl) (fun _ _ _ h => h) (Or.inl ⟨by rfl, ?q65_14b1h7⟩) (by assumption) ?q65_14b1r7
                case q65_14b1h7 => (intro w hSw; (try dsimp only at hSw); go_simp; try with_reducible rfl)
                (try simp only [List.getElem_toArray, List.getElem_cons_succ, List.getElem_cons_zero, Act.put, List.setIfInBounds_toArray, List.set_cons_zero, List.set_cons_succ])
                refine anyB_take (i := 7) (oi := _) (v := ?q65_14b1v8) rfl (by kernel_rfl) (by kernel_rfl) (by kernel_rfl) (by kernel_rfl) (fun _ _ _ h => h) (Or.inl ⟨by rfl, ?q65_14b1h8⟩) (by assumption) ?q65_14b1r8
                case q65_14b1h8 => (intro w hSw; (try dsimp only at hSw); go_simp; try with_reducible rfl)
                (try simp only [List.getElem_toArray, List.getElem_cons_succ, List.getElem_cons_zero, Act.put, List.setIfInBounds_toArray, List.set_cons_zero, List.set_cons_succ])
                refine anyB_take (i := 8) (oi := _) (v := ?q65_14b1v9) rfl (by kernel_rfl) (by kernel_rfl) (by kernel_rfl) (by kernel_rfl) (fun _ _ _ h => h) (Or.inl ⟨by rfl, ?q65_14b1h9⟩) (by assumption) ?q65_14b1r9
                case q65_14b1h9 => (intro w hSw; (try dsimp only at hSw); go_simp; try with_reducible rfl)
                (try simp only [List.getElem_toArray, List.getElem_cons_succ, List.getElem_cons_zero, Act.put, List.setIfInBounds_toArray, List.set_cons_zero, List.set_cons_succ])
                refine anyB_take (i := 9) (oi := _) (v := ?q65_14b1v10) rfl (by kernel_rfl) (by kernel_rfl) (by kernel_rfl) (by kernel_rfl) (fun _ _ _ h => h) (Or.inl ⟨by rfl, ?q65_14b1h10⟩) (by assumption) ?q65_14b1r10
                case q65_14b1h10 => (intro w hSw; (try dsimp only at hSw); go_simp; try with_reducible rfl)
                (try simp only [List.getElem_toArray, List.getElem_cons_succ, List.getElem_cons_zero, Act.put, List.setIfInBounds_toArray, List.set_cons_zero, List.set_cons_succ])
                refine anyB_take (i := 10) (oi := _) (v := ?q65_14b1v11) rfl (by kernel_rfl) (by kernel_rfl) (by kernel_rfl) (by kernel_rfl) (fun _ _ _ h => h) (Or.inl ⟨by rfl, ?q65_14b1h11⟩) (by assumption) ?q65_14b1r11
                case q65_14b1h11 => (intro w hSw; (try dsimp only at hSw); go_simp; try with_reducible rfl)
                (try simp only [List.getElem_toArray, List.getElem_cons_succ, List.getElem_cons_zero, Act.put, List.setIfInBounds_toArray, List.set_cons_zero, List.set_cons_succ])
                refine anyB_take (i := 11) (oi := _) (v := ?q65_14b1v12) rfl (by kernel_rfl) (by kernel_rfl) (by kernel_rfl) (by kernel_rfl) (fun _ _ _ h => h) (Or.inl ⟨by rfl, ?q65_14b1h12⟩) (by assumption) ?q65_14b1r12
                case q65_14b1h12 => (intro w hSw; (try dsimp only at hSw); go_simp; try with_reducible rfl)
                (try simp only [List.getElem_toArray, List.getElem_cons_succ, List.getElem_cons_zero, Act.put, List.setIfInBounds_toArray, List.set_cons_zero, List.set_cons_succ])
                refine anyB_step (i := 12) (o := _) (by kernel_rfl) (by rfl) (by (simp only [List.getElem?_toArray, List.getElem?_cons_succ, List.getElem?_cons_zero] <;> rfl)) (fun K hK => ?_)
                rw [if_pos (by rfl)]
                go_simp; go_at_call 74; refine HC.out.mono ?_; rintro r w4 ⟨rfl, rfl⟩
                (try dsimp only)
                refine hK.out _ _ ?q65_14b1S13 (fun hHeld1 => ?_)
                case q65_14b1S13 => ((first | go_keep | ((try dsimp only); exact ⟨by assumption, by assumption⟩)))
                clear hK K hHeld0
                (try simp only [List.getElem_toArray, List.getElem_cons_succ, List.getElem_cons_zero, Act.put, List.setIfInBounds_toArray, List.set_cons_zero, List.set_cons_succ])
                refine anyB_take (i := 13) (oi := _) (v := ?q65_14b1v14) rfl (by kernel_rfl) (by kernel_rfl) (by kernel_rfl) (by kernel_rfl) (fun _ _ _ h => h) (Or.inl ⟨by rfl, ?q65_14b1h14⟩) (by assumption) ?q65_14b1r14
                case q65_14b1h14 => (intro w hSw; (try dsimp only at hSw); go_simp; try with_reducible rfl)
                (try simp only [List.getElem_toArray, List.getElem_cons_succ, List.getElem_cons_zero, Act.put, List.setIfInBounds_toArray, List.set_cons_zero, List.set_cons_succ])
                refine anyB_take (i := 14) (oi := _) (v := ?q65_14b1v15) rfl (by kernel_rfl) (by kernel_rfl) (by kernel_rfl) (by kernel_rfl) (fun _ _ _ h => h) (Or.inl ⟨by rfl, ?q65_14b1h15⟩) (by assumption) ?q65_14b1r15
                case q65_14b1h15 => (intro w hSw; (try dsimp only at hSw); go_simp; try with_reducible rfl)
                (try simp only [List.getElem_toArray, List.getElem_cons_succ, List.getElem_cons_zero, Act.put, List.setIfInBounds_toArray, List.set_cons_zero, List.set_cons_succ])
                refine anyB_done (by kernel_rfl) ?_ _
                go_wp2
                go_meet
                exact ⟨(by rw [Hh.out]; try simp), (Out.refl _ wj).drew⟩
            case rest =>
              obtain ⟨wk, rfl⟩ : ∃ x : World, x = wc := ⟨_, rfl⟩
              obtain ⟨rfl, hxk⟩ := hcut
              have HXk := Lib.hid (HXj.out.ext hxk)
              have HZk := Lib.hid (hxk.blk HZj.out (fun f => f))
              have Huk := Lib.hid (Huj.out.ext hxk)
              have Hvk := Lib.hid (Hv.out.ext HXk.out)
              have HKk := Lib.hid (HKj.out.ext hxk)
              have HEx := Lib.hid (HXo3.out.ext HXk.out)
              have hzk := hxk.size
              clear z0 z1 z2 z3 hxk
              obtain ⟨y0, y1, y2, y3, -⟩ := cells4 HZk.out
              obtain ⟨hs, hhs⟩ : ∃ hs, headSame Kr e = hs := ⟨_, rfl⟩
              simp only [hhs] at *
              clear hhs
              have hw2k := HEx.out.size
              cases st with
              | false =>
                go_wp2
                go_roundw
                case rel => exact ⟨i, by omega, rfl, (by rw [HKn.out, Hno.out rfl]; exact HKk.out.mono (fun b hb hl => hl) (.inl (by decide))), HEx.out⟩
                case measure => simp [intOf] <;> omega
              | true =>
                cases bottom with
                | false =>
                  go_wp2_with (at_builtin; refine wpList_append_sl rfl (.tmp 128) (.tmp 129) 43 rfl fits32 (own_one (B := wk.heap.size) (F := fun b => b < wk.heap.size) (blk_new _ _) (Nat.le_refl _) rfl e ⟨_, _, rfl, (Huk.out.alloc _).mono (fun b hb hl => by have := hF b hb; omega) (.inl (by decide)), (Hvk.out.alloc _).mono (fun b hb hl => by have := hF b hb; omega) (.inl (by decide))⟩) rfl (by simp) (HKk.out.alloc _) rfl (fun i h cs hc => entC.mono hc fun b hb _ => ⟨by omega, fun e => by simp [Value.ownBlock] at e; omega⟩) (by simp only [List.length_singleton]; omega) (by decide) ?_; intro v5 w5 g1 g2 g3; obtain ⟨A5, n5, c5, rfl⟩ := g1.form0; have G1 := Lib.hid g1; have G2 := Lib.hid g2; clear g1 g2 g3)
                  go_roundw
                  case rel => exact ⟨i, by omega, rfl, (by rw [HKn.out, Hyes.out rfl (.inl rfl)]; exact G1.out.sl (by decide) (by show _ ≤ 140737488355328; simp only [List.length_cons, List.singleton_append]; omega) (fun b hb hl => hl) (fun b hb hl => hl)), (HEx.out.alloc _).then G2.out (fun b hb e => by simp [Value.ownBlock] at e; omega)⟩
                  case measure => simp [intOf] <;> omega
                | true =>
                  by_cases hk1 : e.key.kind.toNat = 1
                  · have hkb : (((e.key.kind.toNat : Nat) : Int) == 1) = true := by rw [beq_iff_eq]; omega
                    have Hip : Hid (isPut e = false) := Lib.hid (by unfold isPut; simp [hk1])
                    clear hk1
                    cases hs with
                    | true =>
                      go_wp2_with (at_builtin; refine wpList_append_sl rfl (.tmp 128) (.tmp 129) 43 rfl fits32 (own_one (B := wk.heap.size) (F := fun b => b < wk.heap.size) (blk_new _ _) (Nat.le_refl _) rfl e ⟨_, _, rfl, (Huk.out.alloc _).mono (fun b hb hl => by have := hF b hb; omega) (.inl (by decide)), (Hvk.out.alloc _).mono (fun b hb hl => by have := hF b hb; omega) (.inl (by decide))⟩) rfl (by simp) (HKk.out.alloc _) rfl (fun i h cs hc => entC.mono hc fun b hb _ => ⟨by omega, fun e => by simp [Value.ownBlock] at e; omega⟩) (by simp only [List.length_singleton]; omega) (by decide) ?_; intro v5 w5 g1 g2 g3; obtain ⟨A5, n5, c5, rfl⟩ := g1.form0; have G1 := Lib.hid g1; have G2 := Lib.hid g2; clear g1 g2 g3)
                      go_roundw
                      case rel => exact ⟨i, by omega, rfl, (by rw [HKn.out, Hyes.out rfl (.inr (.inr rfl))]; exact G1.out.sl (by decide) (by show _ ≤ 140737488355328; simp only [List.length_cons, List.singleton_append]; omega) (fun b hb hl => hl) (fun b hb hl => hl)), (HEx.out.alloc _).then G2.out (fun b hb e => by simp [Value.ownBlock] at e; omega)⟩
                      case measure => simp [intOf] <;> omega
                    | false =>
                      go_wp2
                      go_roundw
                      case rel => exact ⟨i, by omega, rfl, (by rw [HKn.out, Hbare.out rfl Hip.out rfl]; exact HKk.out.mono (fun b hb hl => hl) (.inl (by decide))), HEx.out⟩
                      case measure => simp [intOf] <;> omega
                  · have hkb : (((e.key.kind.toNat : Nat) : Int) == 1) = false := by rw [beq_eq_false_iff_ne]; omega
                    have Hip : Hid (isPut e = true) := Lib.hid (by unfold isPut; simpa using hk1)
                    clear hk1
                    go_wp2_with (at_builtin; refine wpList_append_sl rfl (.tmp 128) (.tmp 129) 43 rfl fits32 (own_one (B := wk.heap.size) (F := fun b => b < wk.heap.size) (blk_new _ _) (Nat.le_refl _) rfl e ⟨_, _, rfl, (Huk.out.alloc _).mono (fun b hb hl => by have := hF b hb; omega) (.inl (by decide)), (Hvk.out.alloc _).mono (fun b hb hl => by have := hF b hb; omega) (.inl (by decide))⟩) rfl (by simp) (HKk.out.alloc _) rfl (fun i h cs hc => entC.mono hc fun b hb _ => ⟨by omega, fun e => by simp [Value.ownBlock] at e; omega⟩) (by simp only [List.length_singleton]; omega) (by decide) ?_; intro v5 w5 g1 g2 g3; obtain ⟨A5, n5, c5, rfl⟩ := g1.form0; have G1 := Lib.hid g1; have G2 := Lib.hid g2; clear g1 g2 g3)
                    go_roundw
                    case rel => exact ⟨i, by omega, rfl, (by rw [HKn.out, Hyes.out rfl (.inr (.inl Hip.out))]; exact G1.out.sl (by decide) (by show _ ≤ 140737488355328; simp only [List.length_cons, List.singleton_append]; omega) (fun b hb hl => hl) (fun b hb hl => hl)), (HEx.out.alloc _).then G2.out (fun b hb e => by simp [Value.ownBlock] at e; omega)⟩
                    case measure => simp [intOf] <;> omega
end Go.Proofs.Yteaanagljmcidaa
