/- Walk: the law WordsSpell. -/
import Derived.Test.YthachfkcgdfdfaaGreatDoorS21
namespace Go.Proofs.YthachfkcgdfdfaaGreatDoor
open Go.RowKit Go.Shelf Classical

theorem Spelt.step {l : List Sht} {W : List ByteArray} {all : List (List ByteArray × Int)} (h : Spelt l W all) {i : Nat} {x y : List ByteArray × Int} (hx : all[i]? = some x) (hy : all[i + 1]? = some y) : x.2 ≤ y.2 := by
 obtain ⟨h1, rfl⟩ := List.getElem?_eq_some_iff.1 hx
 obtain ⟨h2, rfl⟩ := List.getElem?_eq_some_iff.1 hy
 have := List.pairwise_iff_getElem.1 h.sorted i (i + 1) h1 h2 (Nat.lt_succ_self _)
 rcases this with q | ⟨q, _⟩ <;> omega
theorem SpellOf.bad {l : List Sht} {W : List ByteArray} {L : List Spl} {e : Int} (h : SpellOf l W (L.map Spl.key) e) (he : e ≠ 0) : L = [] ∧ (e = 1 ∨ e = 2) := by
 rcases h with ⟨_, h1, rfl⟩ | ⟨_, _, h1, rfl⟩ | ⟨_, _, rfl, _⟩
 ·exact ⟨List.map_eq_nil_iff.1 h1, .inl rfl⟩
 ·exact ⟨List.map_eq_nil_iff.1 h1, .inr rfl⟩
 ·exact absurd rfl he
theorem bytes_eq {a b : ByteArray} : (a.toList == b.toList) = decide (a = b) := by
 rw [ByteArray.toList_eq, ByteArray.toList_eq]
 by_cases h : a = b
 ·subst h; simp
 ·rw [decide_eq_false h]
  simp only [beq_eq_false_iff_ne, ne_eq]
  intro e
  exact h (bl_inj e)
theorem row_set {w : World} {B g k : Nat} {xs : List Value} (h : RowAt w B (some ⟨g, 0, none⟩) xs) (hk : k < xs.length) (u : Value) : RowAt (w.setCell ⟨g, k, none⟩ u) B (some ⟨g, 0, none⟩) (xs.set k u) := fun _ => by
 obtain ⟨b, off, e, hb, hc⟩ := h (by omega)
 cases e
 refine ⟨g, 0, rfl, hb, fun i x hi => ?_⟩
 rw [Nat.zero_add]
 have hc' : ∀ i x, xs[i]? = some x → w.cell? ⟨g, i, none⟩ = some x := fun i x hi => by have := hc i x hi; rwa [Nat.zero_add] at this
 by_cases e : k = i
 ·subst e
  rw [List.getElem?_set_self hk] at hi
  obtain rfl := Option.some.inj hi
  exact World.cell?_setCell_same w _ _ (hc' k _ (List.getElem?_eq_getElem hk))
 ·rw [List.getElem?_set_ne e] at hi
  exact (World.cell?_setCell_other w _ _ _ (fun e' => e (by injection e'))).trans (hc' i x hi)
theorem own_frozen {w : World} {base : Nat} {e : TypeId} {size n c g : Nat} {xs : List Value} (h : w.ownsRow base e size (.slice (some ⟨g, 0, none⟩) n c) n xs) (i : Nat) : w.frozen? ⟨g, i, none⟩ = false := by
 rcases h.2 with ⟨h, _⟩ | ⟨g', cap, cur, e, _, h1, _⟩
 ·cases h
 ·cases e
  exact Blk.frozen (show Blk w g cur _ from h1) i
/-- What the walk knows of whether a word is its own or some Full. -/
def FullI (l : List Sht) (t u : ByteArray) (m : Nat) (q : Bool) : Prop := (t = u ∨ ∃ n, n < m ∧ ∃ s, l[n]? = some s ∧ s.short = u ∧ s.full = t) → q = true
theorem FullI.step {l : List Sht} {t u : ByteArray} {m : Nat} {q q' : Bool} {s : Sht} (h : FullI l t u m q) (hs : l[m]? = some s) (hq : q = true → q' = true) (hn : s.short = u → s.full = t → q' = true) : FullI l t u (m + 1) q' := by
 rintro (e | ⟨n, hn', s', h1, h2, h3⟩)
 ·exact hq (h (.inl e))
 ·rcases Nat.lt_succ_iff_lt_or_eq.1 hn' with h4 | rfl
  ·exact hq (h (.inr ⟨n, h4, s', h1, h2, h3⟩))
  ·rw [hs] at h1
   obtain rfl := Option.some.inj h1
   exact hn h2 h3
theorem FullI.start {l : List Sht} {t u : ByteArray} : FullI l t u 0 (decide (t = u)) := by
 rintro (e | ⟨n, hn, _⟩)
 ·exact decide_eq_true e
 ·omega
theorem FullI.full {l : List Sht} {t u : ByteArray} {q : Bool} (h : FullI l t u l.length q) (hf : t = u ∨ ∃ s ∈ l, s.short = u ∧ s.full = t) : q = true := by
 rcases hf with e | ⟨s, hs, h1, h2⟩
 ·exact h (.inl e)
 ·obtain ⟨n, hn⟩ := List.getElem?_of_mem hs
  exact h (.inr ⟨n, (List.getElem?_eq_some_iff.1 hn).1, s, hn, h1, h2⟩)
set_option maxRecDepth 100000 in
set_option maxHeartbeats 4000000 in
theorem spell_law (l : List Sht) (W : List ByteArray) (la wa : Option Addr) (lc wcp : Nat) (w : World) (hl : l.length ≤ maxLen) (hfit : ∀ s ∈ l, s.fits) (hW : W.length ≤ maxLen) (hWs : ∀ s ∈ W, s.size ≤ maxLen)
  (hla : RowsAt w w.heap.size 4 la (l.map Sht.cells)) (hwa : RowAt w w.heap.size wa (strs W)) :
  Calls Tryz.prog 6 #[.slice la l.length lc, .slice wa W.length wcp] w fun e w' => e = .returned (.bool true) ∧ Below w.heap.size w w' := by
 obtain ⟨i0, hi, hz0, hz1, hz2⟩ := info_parts info_str17
 have HR := Lib.hid (fun (wr : World) (hb : Below w.heap.size w wr) => (show RowsAt wr wr.heap.size 4 la (l.map Sht.cells) ∧ RowAt wr wr.heap.size wa (strs W) from
  ⟨(hla.below hb (Nat.le_refl _)).more hb.size, (hwa.below hb (Nat.le_refl _)).more hb.size⟩))
 clear hla hwa
 go_enter Tryz.func6, Tryz.ntmps6
 go_upto_region 2 with (go_at_call 9; refine (head17_any w).mono ?_; rintro e w1 ⟨rfl, hb1⟩)
 obtain ⟨h1, h2⟩ := HR.out w1 hb1
 have HF1 := Lib.hid (Few17_any l W la wa lc wcp hl hW hfit hWs w1 h1 h2)
 have Hb1 := Lib.hid hb1
 clear h1 h2 hb1 hWs
 go_wp2_with fail
 refine HF1.out.mono ?_
 rintro e w2 ⟨⟨q, rfl, hq⟩, rfl⟩
 cases q with
 | false =>
  go_wp2_with fail
  go_ret
  exact ⟨rfl, Hb1.out⟩
 | true =>
 have hq2 := hq rfl
 obtain ⟨hl110, hW14⟩ := hq2
 clear hq
 obtain ⟨r1, r2⟩ := HR.out _ Hb1.out
 have HS1 := Lib.hid (Spell_any l W la wa lc wcp hl hfit hW _ r1 r2)
 clear r1 r2
 go_wp2_with fail
 refine HS1.out.mono ?_
 rintro e w4 hp
 obtain ⟨a1, c1, L1, e1, rfl, hs1, hL1, hb4⟩ := hp.read
 have Hb4 := Lib.hid (Hb1.out.trans (hb4.mono Hb1.out.size))
 have H4 := Lib.hid (And.intro hs1 hL1)
 clear hp hs1 hL1 hb4 HS1 HF1
 by_cases he1 : e1 = 0
 case neg =>
  obtain ⟨rfl, he⟩ := H4.out.1.bad he1
  clear he1
  rcases he with rfl | rfl
  all_goals (
   go_wp2_with fail
   go_ret
   exact ⟨rfl, Hb4.out⟩)
 subst he1
 have p1 : Spelt l W (L1.map Spl.key) := H4.out.1.spelt
 have hW1 := p1.plain.1
 have n1 : L1.length ≤ 64 := by have := H4.out.1.err.1; rwa [List.length_map] at this
 have n0 : 1 ≤ L1.length := by have := List.length_pos_of_mem p1.own; rwa [List.length_map] at this
 have HP := Lib.hid p1
 obtain ⟨r1, -⟩ := HR.out _ Hb4.out
 have hpr := Proper_any l la lc hl hfit w4 r1
 rw [decide_eq_true p1.ok] at hpr
 have HPr := Lib.hid hpr
 clear p1 r1 hpr
 go_wp2_with fail
 refine HPr.out.mono ?_
 rintro e w5 ⟨rfl, hb5⟩
 have Hb5 := Lib.hid (Hb4.out.trans (hb5.mono Hb4.out.size))
 have hfd := Find_any L1 W a1 wa c1 wcp (by unfold maxLen; omega) w5 ((H4.out.2.below hb5 (Nat.le_refl _)).more hb5.size) (HR.out _ Hb5.out).2
 rw [HP.out.find HP.out.own] at hfd
 have HFd := Lib.hid hfd
 have H5 := Lib.hid ((H4.out.2.below hb5 (Nat.le_refl _)).more hb5.size)
 clear hfd hb5 HPr
 go_wp2_with fail
 refine HFd.out.mono ?_
 rintro e w6 ⟨rfl, q, hq⟩
 have Hb6 := Lib.hid (show Below w.heap.size w w6 from by rw [hq]; exact Go.below_drewN Hb5.out q)
 have H6 := Lib.hid (show SplsAt w6 w6.heap.size a1 L1 from by rw [hq]; exact H5.out.below (Go.below_drewN (Below.refl _ _) q) (Nat.le_refl _))
 clear hq HFd H5 Hb5 H4
 go_wp2_with fail
 go_loopw [8] (fun i wr => ∃ j : Nat, j ≤ L1.length ∧ i = .int .i64 j ∧ Below w6.heap.size w6 wr) (fun i _ => L1.length - (intOf i).toNat)
 case atStart => exact ⟨0, Nat.zero_le _, rfl, Below.refl _ _⟩
 case round =>
  obtain ⟨j, hj, rfl, hbj⟩ := hrel
  have Hbj := Lib.hid hbj
  clear hbj
  by_cases hjl : j < L1.length
  case neg =>
   go_wp2_with fail
   go_ret
   exact ⟨rfl, Hb6.out.trans (Hbj.out.mono Hb6.out.size)⟩
  obtain ⟨g1, o1, rfl, hg1, hc1⟩ := H6.out.get (by omega)
  obtain ⟨x, hx⟩ : ∃ x, L1[j] = x := ⟨_, rfl⟩
  have c1 := hc1 j hjl
  rw [hx] at c1
  have hmx : x ∈ L1 := by rw [← hx]; exact List.getElem_mem hjl
  have kx : x.key ∈ L1.map Spl.key := List.mem_map_of_mem hmx
  have hlx : x.ws.length = W.length := (HP.out.length kx).1
  have hcx := (HP.out.length kx).2
  have hmx2 := HP.out.most kx
  simp only [Spl.key] at hcx hmx2
  obtain ⟨xb, xo, hxa, hxb, hxc⟩ := (H6.out.ok x hmx).2.strs (by omega)
  rw [hxa] at c1
  have Hlx := Lib.hid hlx
  clear hlx
  have k0 := (Hbj.out.cell (p := ⟨g1, o1 + j * 2, none⟩) hg1).trans c1.1
  have k1 := (Hbj.out.cell (p := ⟨g1, o1 + j * 2 + 1, none⟩) hg1).trans c1.2
  have Hord := Lib.hid (fun (h0 : 0 < j) => (show ∃ z : Int, z ≤ x.cost ∧ ∀ w', Below w6.heap.size w6 w' → w'.cell? ⟨g1, o1 + (j - 1) * 2 + 1, none⟩ = some (.int .i64 z) from by
   have h1 : j - 1 < L1.length := by omega
   refine ⟨L1[j - 1].cost, ?_, fun w' hb => (hb.cell (p := ⟨g1, _, none⟩) hg1).trans (hc1 (j - 1) h1).2⟩
   have e1 : (L1.map Spl.key)[j - 1]? = some (L1[j - 1]).key := by rw [List.getElem?_map, List.getElem?_eq_getElem h1]; rfl
   have e2 : (L1.map Spl.key)[j - 1 + 1]? = some x.key := by rw [show j - 1 + 1 = j by omega, List.getElem?_map, List.getElem?_eq_getElem hjl, hx]; rfl
   exact HP.out.step e1 e2))
  have HX := Lib.hid (fun (w' : World) (hb : Below w6.heap.size w6 w') (i : Nat) (h : i < x.ws.length) => (show w'.cell? ⟨xb, xo + i, none⟩ = some (.string x.ws[i]) from (hb.cell (p := ⟨xb, xo + i, none⟩) hxb).trans (hxc i h)))
  have Hkx := Lib.hid kx
  have hxb' := hxb
  clear hx c1 hc1 hmx kx hxa hxc
  obtain ⟨wo, rfl⟩ : ∃ wo : World, wo = wr := ⟨_, rfl⟩
  go_upto_region 13 with (fail)
  generalize hW8 : (wo.alloc _) = W8
  have b8 : Below w6.heap.size w6 W8 := by rw [← hW8]; exact Hbj.out.alloc Hbj.out.size _
  have kb : Blk W8 wo.heap.size #[.slice (some ⟨xb, xo, none⟩) x.ws.length x.cap, .int .i64 x.cost] 52 := by rw [← hW8]; exact Blk.new _ _ _
  have HB8 := Lib.hid (And.intro b8 kb)
  clear hW8 b8 kb k0 k1
  go_cut [97] (fun c wx => c = .bool false ∧ ∃ q, wx = W8.drewN q)
  case first =>
   have n0 : W8.cell? ⟨wo.heap.size, 0, none⟩ = some (.slice (some ⟨xb, xo, none⟩) x.ws.length x.cap) := HB8.out.2.cell 0
   have n1 : W8.cell? ⟨wo.heap.size, 1, none⟩ = some (.int .i64 x.cost) := HB8.out.2.cell 1
   have d1 : ((x.ws.length : Int) != (W.length : Int)) = false := by have := Hlx.out; simp [this]
   have d2 : decide (x.cost < 0) = false := decide_eq_false (by omega)
   by_cases hj0 : j = 0
   ·subst hj0
    have d3 : decide ((0 : Int) < ((0 : Nat) : Int)) = false := by decide
    go_wp2_with fail
    go_quiet (fail)
    go_wp2_with fail
    go_meet
    exact ⟨rfl, _, rfl⟩
   ·obtain ⟨z, hz, hzc⟩ := Hord.out (by omega)
    have k2 := hzc W8 HB8.out.1
    obtain ⟨j1, rfl⟩ : ∃ j1, j = j1 + 1 := ⟨j - 1, by omega⟩
    rw [Nat.add_sub_cancel] at k2
    have d3 : decide ((0 : Int) < ((j1 + 1 : Nat) : Int)) = true := decide_eq_true (by omega)
    have hwj : IntKind.i64.wrap (((j1 + 1 : Nat) : Int) - 1) = (j1 : Int) := by rw [IntWalk.i64_in _ (by omega)]; omega
    have hj1 : j1 < L1.length := by omega
    have d4 : decide (x.cost < z) = false := decide_eq_false (by omega)
    go_wp2_with fail
    go_quiet (fail)
    go_wp2_with fail
    go_meet
    exact ⟨rfl, _, rfl⟩
  case rest =>
   obtain ⟨rfl, q8, hq8⟩ := hcut
   have HBc := Lib.hid (show Below w6.heap.size w6 wc ∧ Blk wc wo.heap.size #[.slice (some ⟨xb, xo, none⟩) x.ws.length x.cap, .int .i64 x.cost] 52 from by rw [hq8]; exact ⟨Go.below_drewN HB8.out.1 q8, HB8.out.2.drewN q8⟩)
   have hcz : wo.heap.size < wc.heap.size := HBc.out.2.lt
   clear hq8 HB8 Hord
   obtain ⟨w9, rfl⟩ : ∃ w9 : World, w9 = wc := ⟨_, rfl⟩
   go_wp2_with fail
   go_loopw [10] (fun i wr => ∃ k : Nat, k ≤ W.length ∧ i = .int .i64 k ∧ Below w9.heap.size w9 wr) (fun i _ => W.length - (intOf i).toNat)
   case atStart => exact ⟨0, Nat.zero_le _, rfl, Below.refl _ _⟩
   case round =>
    obtain ⟨k, hk, rfl, hbk⟩ := hrel
    have Hbk := Lib.hid hbk
    have hszk := hbk.size
    clear hbk
    by_cases hkl : k < W.length
    case neg =>
     obtain rfl : k = W.length := by omega
     go_wp2_with fail
     exact ⟨⟨j + 1, by omega, by go_num, HBc.out.1.trans (Hbk.out.mono HBc.out.1.size)⟩, by simp [intOf]; omega⟩
    have hkx : k < x.ws.length := by have := Hlx.out; omega
    obtain ⟨t, ht⟩ : ∃ t, x.ws[k] = t := ⟨_, rfl⟩
    obtain ⟨u, hu⟩ : ∃ u, W[k] = u := ⟨_, rfl⟩
    have HTU := Lib.hid (And.intro (show x.key.1[k]? = some t from by show x.ws[k]? = some t; rw [List.getElem?_eq_getElem hkx, ht]) (show W[k]? = some u from by rw [List.getElem?_eq_getElem hkl, hu]))
    have hb6k : Below w6.heap.size w6 wr := HBc.out.1.trans (Hbk.out.mono HBc.out.1.size)
    obtain ⟨wb, wo2, rfl, hwb, hwc⟩ := (HR.out w6 Hb6.out).2.strs (by omega)
    -- what is read in every world of this round
    have HRD := Lib.hid (fun (w' : World) (hb : Below w9.heap.size w9 w') => (show w'.cell? ⟨wo.heap.size, 0, none⟩ = some (.slice (some ⟨xb, xo, none⟩) x.ws.length x.cap) ∧ w'.cell? ⟨wo.heap.size, 1, none⟩ = some (.int .i64 x.cost) ∧ w'.cell? ⟨xb, xo + k, none⟩ = some (.string t) ∧ w'.cell? ⟨wb, wo2 + k, none⟩ = some (.string u) from by
     have hb6 : Below w6.heap.size w6 w' := HBc.out.1.trans (hb.mono HBc.out.1.size)
     have hx := HX.out w' hb6 k hkx
     rw [ht] at hx
     have hw := (hb6.cell (p := ⟨wb, wo2 + k, none⟩) hwb).trans (hwc k hkl)
     rw [hu] at hw
     exact ⟨(HBc.out.2.below hb hcz).cell 0, (HBc.out.2.below hb hcz).cell 1, hx, hw⟩))
    clear ht hu hwc hb6k
    obtain ⟨wk, rfl⟩ : ∃ wk : World, wk = wr := ⟨_, rfl⟩
    go_upto_region 18 with (fail)
    go_cut [11] (fun c wx => c = .bool (decide (t = u)) ∧ ∃ q, wx = wk.drewN q)
    case first =>
     obtain ⟨n0, n1, n2, n3⟩ := HRD.out wk Hbk.out
     have d1 := bytes_eq (a := t) (b := u)
     go_quiet (fail)
     go_wp2_with fail
     go_meet
     exact ⟨rfl, _, rfl⟩
    case rest =>
     obtain ⟨rfl, q9, hq9⟩ := hcut
     have Hbq := Lib.hid (show Below w9.heap.size w9 wc from by rw [hq9]; exact Go.below_drewN Hbk.out q9)
     have hszq := Hbq.out.size
     clear hq9
     obtain ⟨wd, rfl⟩ : ∃ wd : World, wd = wc := ⟨_, rfl⟩
     go_wp2_with fail
     go_loopw [11, 12] (fun f i wr => ∃ (m : Nat) (q : Bool), m ≤ l.length ∧ i = .int .i64 m ∧ f = .bool q ∧ FullI l t u m q ∧ Below w9.heap.size w9 wr) (fun _ i _ => l.length - (intOf i).toNat)
     case atStart => exact ⟨0, _, Nat.zero_le _, rfl, rfl, FullI.start, Hbq.out⟩
     case round =>
      obtain ⟨m, q, hm, rfl, rfl, hfull, hbm⟩ := hrel
      have Hbm := Lib.hid hbm
      have Hfull := Lib.hid hfull
      have hszm := hbm.size
      clear hbm hfull
      by_cases hml : m < l.length
      case neg =>
       obtain rfl : m = l.length := by omega
       obtain rfl : q = true := Hfull.out.full (HP.out.each Hkx.out HTU.out.1 HTU.out.2)
       go_wp2_with fail
       exact ⟨⟨k + 1, by omega, by go_num, Hbm.out⟩, by simp [intOf]; omega⟩
      obtain ⟨g3, o3, rfl, hg3, hc3⟩ := (HR.out w6 Hb6.out).1.shts (by omega)
      obtain ⟨s, hs⟩ : ∃ s, l[m] = s := ⟨_, rfl⟩
      have hls : l[m]? = some s := by rw [List.getElem?_eq_getElem hml, hs]
      have HSD := Lib.hid (fun (w' : World) (hb : Below w9.heap.size w9 w') => (show w'.cell? ⟨g3, o3 + m * 4 + 1, none⟩ = some (.string s.short) ∧ w'.cell? ⟨g3, o3 + m * 4 + 2, none⟩ = some (.string s.full) ∧ w'.cell? ⟨g3, o3 + m * 4 + 3, none⟩ = some (.int .i64 s.cost) from by
       have hb6 : Below w6.heap.size w6 w' := HBc.out.1.trans (hb.mono HBc.out.1.size)
       obtain ⟨v0, v1, v2, v3⟩ := hc3 m hml
       rw [hs] at v1 v2 v3
       exact ⟨(hb6.cell (p := ⟨g3, _, none⟩) hg3).trans v1, (hb6.cell (p := ⟨g3, _, none⟩) hg3).trans v2, (hb6.cell (p := ⟨g3, _, none⟩) hg3).trans v3⟩))
      have Hls := Lib.hid hls
      clear hs hls hc3
      obtain ⟨wm, rfl⟩ : ∃ wm : World, wm = wr := ⟨_, rfl⟩
      go_upto_region 22 with (fail)
      obtain ⟨n0, n1, n2, n3⟩ := HRD.out wm Hbm.out
      obtain ⟨v1, v2, v3⟩ := HSD.out wm Hbm.out
      by_cases hsu : s.short = u
      case neg =>
       have d2 : (s.short.toList == u.toList) = false := bytes_eq.trans (decide_eq_false hsu)
       have Hsu := Lib.hid hsu
       clear hsu
       go_quiet (fail)
       go_wp2_with fail
       exact ⟨⟨m + 1, q, by omega, by go_num, rfl, Hfull.out.step Hls.out id (fun e => absurd e Hsu.out), by first | exact Go.below_drewN Hbm.out _ | exact Hbm.out⟩, by simp [intOf]; omega⟩
      have d2 : (s.short.toList == u.toList) = true := bytes_eq.trans (decide_eq_true hsu)
      have Hsu := Lib.hid hsu
      clear hsu
      go_quiet (fail)
      go_upto_region 23 with (fail)
      clear d2 n0 n1 n2 n3 v1 v2 v3
      generalize hwn : (wm.drewN _) = wn
      have Hbn := Lib.hid (show Below w9.heap.size w9 wn from by rw [← hwn]; exact Go.below_drewN Hbm.out _)
      clear hwn
      go_cut [11] (fun c wx => ∃ q' : Bool, c = .bool q' ∧ FullI l t u (m + 1) q' ∧ Below w9.heap.size w9 wx)
      case first =>
       obtain ⟨n0, n1, n2, n3⟩ := HRD.out wn Hbn.out
       obtain ⟨v1, v2, v3⟩ := HSD.out wn Hbn.out
       cases q with
       | true =>
        go_quiet (fail)
        go_wp2_with fail
        go_meet
        exact ⟨true, rfl, Hfull.out.step Hls.out id (fun _ _ => rfl), by first | exact Go.below_drewN Hbn.out _ | exact Hbn.out⟩
       | false =>
        have d3 := bytes_eq (a := s.full) (b := t)
        go_quiet (fail)
        go_wp2_with fail
        go_meet
        exact ⟨decide (s.full = t), rfl, Hfull.out.step Hls.out (fun h => by cases h) (fun _ h => decide_eq_true h), by first | exact Go.below_drewN Hbn.out _ | exact Hbn.out⟩
      obtain ⟨q', rfl, hfull2, hbe⟩ := hcut
      have Hfull2 := Lib.hid hfull2
      have Hbe := Lib.hid hbe
      have hsze := hbe.size
      clear hfull2 hbe Hfull Hbm
      obtain ⟨we, rfl⟩ : ∃ we : World, we = wc := ⟨_, rfl⟩
      go_upto_region 24 with (fail)
      obtain ⟨n0, n1, n2, n3⟩ := HRD.out we Hbe.out
      by_cases htu : t = u
      case neg =>
       have d4 : (t.toList == u.toList) = false := bytes_eq.trans (decide_eq_false htu)
       clear htu
       go_quiet (fail)
       go_wp2_with fail
       exact ⟨⟨m + 1, q', by omega, by go_num, rfl, Hfull2.out, by first | exact Go.below_drewN Hbe.out _ | exact Hbe.out⟩, by simp [intOf]; omega⟩
      have d4 : (t.toList == u.toList) = true := bytes_eq.trans (decide_eq_true htu)
      have Htu := Lib.hid htu
      clear htu
      go_quiet (fail)
      go_upto_region 25 with (fail)
      clear d4 n0 n1 n2 n3
      generalize hwf : (we.drewN _) = wf
      have hbf : Below w9.heap.size w9 wf := by rw [← hwf]; exact Go.below_drewN Hbe.out _
      clear hwf Hbe hsze
      have hszf := hbf.size
      have hba : Below w9.heap.size w9 (wf.alloc (.cells #[] 9)) := hbf.alloc hszf _
      obtain ⟨n0, -, -, -⟩ := HRD.out _ hba
      have HRow := Lib.hid (show RowAt (wf.alloc (.cells #[] 9)) w6.heap.size (some ⟨xb, xo, none⟩) (strs x.ws) from fun _ => ⟨xb, xo, rfl, hxb, fun i y hy => by
       have hi : i < x.ws.length := by have := (List.getElem?_eq_some_iff.1 hy).1; simpa [strs] using this
       rw [HX.out _ (HBc.out.1.trans (hba.mono HBc.out.1.size)) i hi, ← hy]
       simp [strs, hi]⟩)
      have Hba := Lib.hid hba
      have hx14 : x.ws.length ≤ 14 := by have := Hlx.out; omega
      clear hba hbf
      go_wp2_with (at_builtin; refine wpList_append_row rfl _ _ 29 rfl wf.heap.size 9 i0 _ 1 16 Tryz.underlying29 hi hz0 hz1 hz2 rfl (by decide) _ _ _ rfl (own_empty wf 9 1) (some ⟨xb, xo, none⟩) x.ws.length x.cap (strs x.ws) rfl (by simp [strs]) HRow.out strs_one (by unfold maxLen; omega) (by omega) (by simp) ?_)
      intro v5 w11 hown5 hgrow5
      try rw [Nat.zero_add] at hown5
      try rw [List.nil_append] at hown5
      have hb11 : Below w9.heap.size w9 w11 := Hba.out.grown hgrow5 (by simp; omega) (fun k hk => by cases hk; exact hszf)
      obtain ⟨g5, c5, rfl⟩ : ∃ g c, v5 = .slice (some ⟨g, 0, none⟩) x.ws.length c := by
       rcases hown5.2 with ⟨-, h0⟩ | ⟨g, cap, cur, e, -⟩
       ·omega
       ·exact ⟨g, cap, e⟩
      have hg5 := (hown5.lt g5 rfl).1
      have hr5 : RowAt w11 w11.heap.size (some ⟨g5, 0, none⟩) (strs x.ws) := by
       obtain ⟨a5, c5', e5, -, h5⟩ := RowAt.of_own hown5
       cases e5
       exact h5
      have y0 : w11.cell? ⟨g5, k, none⟩ = some (.string x.ws[k]) := by
       obtain ⟨b6, o6, e6, -, h6⟩ := hr5.strs (by omega)
       cases e6
       have := h6 k hkx
       rwa [Nat.zero_add] at this
      have f5 := own_frozen hown5 k
      obtain ⟨v1, v2, v3⟩ := HSD.out _ hb11
      have H11 := Lib.hid (And.intro hb11 hr5)
      clear n0 hown5 hgrow5 hb11 hr5 HRow Hba
      go_upto_region 27 with (fail)
      generalize hw12 : (w11.setCell ⟨g5, k, none⟩ (.string s.full)) = w12
      have hb12 : Below w9.heap.size w9 w12 := by rw [← hw12]; exact H11.out.1.setCell (by show w9.heap.size ≤ g5; omega) _
      have hr12 : RowAt w12 w12.heap.size (some ⟨g5, 0, none⟩) (strs (x.ws.set k s.full)) := by
       have h0 := row_set H11.out.2 (k := k) (by simpa [strs] using hkx) (.string s.full)
       rw [hw12] at h0
       have h1 : (strs x.ws).set k (.string s.full) = strs (x.ws.set k s.full) := by simp [strs, List.map_set]
       rw [h1] at h0
       exact h0.more (by rw [← hw12]; simp)
      clear hw12 y0 f5 v1 v2 v3
      obtain ⟨c, hc, hc0, hc1⟩ := HP.out.replace Hkx.out HTU.out.2 (by rw [HTU.out.1, Htu.out]) (List.mem_of_getElem? Hls.out) Hsu.out
      have hsc := (HP.out.ok.each s (List.mem_of_getElem? Hls.out)).2.2.2
      have hfind := HP.out.find hc
      simp only [Spl.key] at hc1 hfind
      have hfd := Find_any L1 (x.ws.set k s.full) (some ⟨g1, o1, none⟩) (some ⟨g5, 0, none⟩) c1 c5 (by unfold maxLen; omega) w12 ((H6.out.below (HBc.out.1.trans (hb12.mono HBc.out.1.size)) (Nat.le_refl _)).more (HBc.out.1.trans (hb12.mono HBc.out.1.size)).size) hr12
      rw [hfind, List.length_set] at hfd
      have HFd := Lib.hid hfd
      have Hb12 := Lib.hid hb12
      clear hc hfind hfd hb12 hr12 H11
      go_wp2_with fail
      refine HFd.out.mono ?_
      rintro e w13 ⟨rfl, q13, hq13⟩
      have Hb13 := Lib.hid (show Below w9.heap.size w9 w13 from by rw [hq13]; exact Go.below_drewN Hb12.out _)
      clear hq13 HFd Hb12
      go_upto_region 28 with (fail)
      obtain ⟨n0, n1, n2, n3⟩ := HRD.out _ Hb13.out
      obtain ⟨v1, v2, v3⟩ := HSD.out _ Hb13.out
      have hsum : IntKind.i64.wrap (x.cost + s.cost) = x.cost + s.cost := IntWalk.i64_in _ (by omega)
      have d5 : decide (c < 0) = false := decide_eq_false (by omega)
      have d6 : decide (x.cost + s.cost < c) = false := decide_eq_false (by omega)
      go_quiet (fail)
      go_wp2_with fail
      exact ⟨⟨m + 1, q', by omega, by go_num, rfl, Hfull2.out, by first | exact Go.below_drewN Hb13.out _ | exact Hb13.out⟩, by simp [intOf]; omega⟩
end Go.Proofs.YthachfkcgdfdfaaGreatDoor
