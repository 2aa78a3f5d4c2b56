/- SP -/
import Derived.Test.YthachfkcgdfdfaaGreatDoorP28
/- Walk: words.Spell. -/
namespace Go.Proofs.YthachfkcgdfdfaaGreatDoor
open Go.RowKit Go.Shelf Classical
attribute [local go_sem] Oper.semAt_some

def SpellPost (l : List Sht) (W : List ByteArray) (w : World) (e : Ending) (w' : World) : Prop :=
 ∃ (ov : Value) (L : List Spl) (err : Int), e = .returned (.tuple #[ov, .int .i64 err]) ∧ SpellOf l W (L.map Spl.key) err ∧ w'.ownsRow w.heap.size 52 2 ov L.length (L.flatMap Spl.cells) ∧
  (∀ x ∈ L, x.ws.length ≤ maxLen ∧ w'.ownsRow w.heap.size 9 1 (.slice x.at_ x.ws.length x.cap) x.ws.length (strs x.ws)) ∧ Below w.heap.size w w'
theorem sp_ret {l : List Sht} {W : List ByteArray} {w w' : World} {err : Int} {n : Nat} {tmps : Array Value} (hS : SpellOf l W [] err) (t1 : tmps[4]?.getD undef = .slice none 0 0) (t2 : tmps[5]?.getD undef = .int .i64 err) (hb : Below w.heap.size w w') :
  bodyPostM Fence.wide n Tryz.prog Tryz.f14 (SpellPost l W w) .ret { tmps := tmps, defers := [] } w' := by
 refine bodyPostM_ret (v := .tuple #[.slice none 0 0, .int .i64 err]) ?_ rfl ?_
 ·simp [results, Tryz.results14, go_sem, t1, t2]
 ·exact ⟨_, [], err, rfl, hS, World.ownsRow_nil _ _ _ _, by simp, hb⟩
theorem sp_mark {l : List Sht} {W : List ByteArray} {w w' : World} {ov : Value} {L : List Spl} {err : Int} {n D : Nat} {tmps : Array Value} (hS : SpellOf l W (L.map Spl.key) err) (t1 : tmps[4]?.getD undef = ov) (t2 : tmps[5]?.getD undef = .int .i64 err) (hD : w.heap.size ≤ D) (hKD : w'.heap[D]? = some (.deferred (some [])))
  (h1 : w'.ownsRow w.heap.size 52 2 ov L.length (L.flatMap Spl.cells)) (h2 : ∀ x ∈ L, x.ws.length ≤ maxLen ∧ w'.ownsRow w.heap.size 9 1 (.slice x.at_ x.ws.length x.cap) x.ws.length (strs x.ws)) (hb : Below w.heap.size w w') :
  bodyPostM Fence.wide n Tryz.prog Tryz.f14 (SpellPost l W w) .ret { tmps := tmps, defers := [{ target := .collected D, args := #[] }] } w' := by
 have hg := grownBy_putObj' w' D (.deferred none)
 have ne : ∀ {base : Nat} {e : TypeId} {size n : Nat} {v : Value} {xs : List Value}, w'.ownsRow base e size v n xs → v.ownBlock = none ∨ v.ownBlock ≠ some D := fun h => .inr (fun e => by
  rcases h.2 with ⟨rfl, -⟩ | ⟨g, cap, cur, rfl, -, hh, -⟩
  ·cases e
  ·have : g = D := by simpa [Value.ownBlock] using e
   subst this
   rw [hh] at hKD; cases hKD)
 refine bodyPostM_mark (v := .tuple #[ov, .int .i64 err]) hKD ?_ rfl ?_
 ·simp [results, Tryz.results14, go_sem, t1, t2]
 ·exact ⟨ov, L, err, rfl, hS, h1.kept hg (ne h1), fun x hx => ⟨(h2 x hx).1, (h2 x hx).2.kept hg (ne (h2 x hx).2)⟩, hb.grown hg hb.size (fun k e => by cases e; exact hD)⟩

set_option maxRecDepth 100000 in
set_option maxHeartbeats 4000000 in
theorem Spell_any (l : List Sht) (W : List ByteArray) (la wa : Option Addr) (lc wc : Nat) (hl : l.length ≤ maxLen) (hfit : ∀ s ∈ l, s.fits) (hW : W.length ≤ maxLen) (w : World) (hla : RowsAt w w.heap.size 4 la (l.map Sht.cells)) (hwa : RowAt w w.heap.size wa (strs W)) :
  Calls Tryz.prog 14 #[.slice la l.length lc, .slice wa W.length wc] w (SpellPost l W w) := by
 obtain ⟨i0, hi, hz0, hz1, hz2⟩ := info_parts info_str17
 have hmm := @run_makeMap Tryz.prog
 have Hmm := Lib.hid hmm
 refine (callsIn_wide (n := 5)).1 ?_
 refine callsIn_of_wp_marks Tryz.func14 rfl trivial ?_ rfl
 simp only [Tryz.ntmps14, List.size_toArray, List.length_cons, List.length_nil, Nat.reduceAdd, Nat.reduceSub, Array.replicate_succ, Array.replicate_zero, List.push_toArray, List.append_toArray, List.nil_append, List.cons_append]
 refine wpIn_wide.2 ?_
 go_upto_region 2 with (fail)
 obtain ⟨W0, hW0⟩ : ∃ W0 : World, W0 = w.alloc (.cells #[.slice wa W.length wc] 29) := ⟨_, rfl⟩
 rw [← hW0]
 have hb0 : Below w.heap.size w W0 := by rw [hW0]; exact (Below.refl _ _).alloc (Nat.le_refl _) _
 have k0 : Blk W0 w.heap.size #[.slice wa W.length wc] 29 := by rw [hW0]; exact Blk.new _ _ _
 have hs0 : W0.heap.size = w.heap.size + 1 := by rw [hW0]; simp
 have HK := Lib.hid (fun (wr : World) (hbr : Below W0.heap.size W0 wr) => (show wr.cell? ⟨w.heap.size, 0, none⟩ = some (.slice wa W.length wc) ∧ RowsAt wr wr.heap.size 4 la (l.map Sht.cells) ∧ RowAt wr wr.heap.size wa (strs W) ∧ Below w.heap.size w wr from
  have hbw := hb0.trans (hbr.mono (by omega))
  ⟨(k0.below hbr (by omega)).cell 0, (hla.below hbw (Nat.le_refl _)).more hbw.size, (hwa.below hbw (Nat.le_refl _)).more hbw.size, hbw⟩))
 clear hW0 k0 hla hwa hb0
 obtain ⟨x0, hl0, hw0, -⟩ := HK.out W0 (Below.refl _ _)
 have HP := Lib.hid (Proper_any l la lc hl hfit W0 hl0)
 have HC := Lib.hid (fun (wr : World) (hbr : Below W0.heap.size W0 wr) => conFunc_any NoWord W wa wc 34 #[] wr hW (HK.out wr hbr).2.2.1 (by intro args w; kernel_rfl) (fun w' t _ _ => sp1_any t w'))
 unfold maxLen at hl hW
 clear hl0 hw0 x0
 by_cases hP : Proper l
 case neg =>
  have hd := decide_eq_false hP
  have Hd := Lib.hid hd
  have Hno := Lib.hid (show SpellOf l W [] 1 from .inl ⟨fun h => hP h.1, rfl, rfl⟩)
  clear hP hd
  go_wp2_with (refine HP.out.mono ?_; rintro e w1 ⟨rfl, hb1⟩; rw [Hd.out])
  exact sp_ret Hno.out rfl rfl (HK.out w1 hb1).2.2.2
 have hdP := decide_eq_true hP
 have HdP := Lib.hid hdP
 have Hp := Lib.hid hP
 clear hP hdP
 by_cases h1 : W.length < 1
 ·have Hno := Lib.hid (show SpellOf l W [] 1 from .inl ⟨fun h => by have := h.2.1; omega, rfl, rfl⟩)
  go_wp2_with (refine HP.out.mono ?_; rintro e w1 ⟨rfl, hb1⟩; rw [HdP.out]; have x0 := (HK.out w1 hb1).1)
  exact sp_ret Hno.out rfl rfl (HK.out w1 hb1).2.2.2
 by_cases h2 : 12 < W.length
 ·have Hno := Lib.hid (show SpellOf l W [] 1 from .inl ⟨fun h => by have := h.2.2.1; omega, rfl, rfl⟩)
  go_wp2_with (refine HP.out.mono ?_; rintro e w1 ⟨rfl, hb1⟩; rw [HdP.out]; have x0 := (HK.out w1 hb1).1)
  exact sp_ret Hno.out rfl rfl (HK.out w1 hb1).2.2.2
 by_cases h3 : ∃ t ∈ W, NoWord t
 ·have hd3 := decide_eq_true h3
  have Hd3 := Lib.hid hd3
  have Hno := Lib.hid (show SpellOf l W [] 1 from .inl ⟨fun h => by obtain ⟨t, ht, hn⟩ := h3; exact hn (h.2.2.2 t ht), rfl, rfl⟩)
  clear h3 hd3
  go_wp2_with (first | (go_at_call 21; refine HP.out.mono ?_; rintro e w1 ⟨rfl, hb1⟩; rw [HdP.out]; have x0 := (HK.out w1 hb1).1) | (go_at_call 36; refine (HC.out w1 hb1).mono ?_; rintro e w2 ⟨rfl, hb2⟩; rw [Hd3.out]))
  exact sp_ret Hno.out rfl rfl (HK.out w2 (hb1.trans (hb2.mono hb1.size))).2.2.2
 have hd3 := decide_eq_false h3
 have Hd3 := Lib.hid hd3
 have HPl := Lib.hid (show Plain W from ⟨by omega, by omega, fun t ht => Classical.not_not.1 fun hn => h3 ⟨t, ht, hn⟩⟩)
 clear h3 hd3
 go_upto_region 4 with (first | (go_at_call 21; refine HP.out.mono ?_; rintro e w1 ⟨rfl, hb1⟩; rw [HdP.out]; have x0 := (HK.out w1 hb1).1) | (go_at_call 36; refine (HC.out w1 hb1).mono ?_; rintro e w2 ⟨rfl, hb2⟩; rw [Hd3.out]))
 have hb02 := hb1.trans (hb2.mono hb1.size)
 clear hb2 hb1 x0 HP HC HdP Hd3
 go_upto_region 5 with (fail)
 obtain ⟨W4, hW4⟩ : ∃ W4 : World, W4 = (w2.alloc (.map #[] 0)).alloc (.cells #[.map (some w2.heap.size)] 67) := ⟨_, rfl⟩
 rw [← hW4]
 have hb4 : Below w2.heap.size w2 W4 := by rw [hW4]; exact ((Below.refl _ _).alloc (Nat.le_refl _) _).alloc (by simp) _
 have hs4 : W4.heap.size = w2.heap.size + 2 := by rw [hW4]; simp
 have hM4 : MapIs W4 w2.heap.size OkCh (costV []) := by rw [hW4]; exact (MapIs.made w2 OkCh).alloc _
 have hk4 : Blk W4 (w2.heap.size + 1) #[.map (some w2.heap.size)] 67 := by rw [hW4]; have := Blk.new (w2.alloc (.map #[] 0)) #[.map (some w2.heap.size)] 67; simpa using this
 obtain ⟨m, hm⟩ : ∃ m, w2.heap.size = m := ⟨_, rfl⟩
 rw [hm] at hb4 hs4 hM4 hk4 ⊢
 have hm0 : W0.heap.size ≤ m := by rw [← hm]; exact hb02.size
 have hb04 : Below W0.heap.size W0 W4 := hb02.trans (hb4.mono hm0)
 have HK4 := Lib.hid (fun (wr : World) (hc : Chg (· = m) W4 wr) => (show (wr.cell? ⟨w.heap.size, 0, none⟩ = some (.slice wa W.length wc) ∧ RowsAt wr wr.heap.size 4 la (l.map Sht.cells) ∧ RowAt wr wr.heap.size wa (strs W) ∧ Below w.heap.size w wr) ∧ Blk wr (m + 1) #[.map (some m)] 67 from
  ⟨HK.out wr (hb04.trans ((hc.below (B := m) (fun k hk => by cases hk; exact Nat.le_refl _) (by omega)).mono hm0)), hk4.chg hc (by omega)⟩))
 have HM4 := Lib.hid hM4
 have hm1 : w.heap.size < m := by omega
 clear hW4 hb4 hM4 hk4 hb04 hb02 hm HK
 obtain ⟨⟨x0, -, -, -⟩, -⟩ := HK4.out W4 (Chg.refl _ _)
 go_wp2_with fail
 clear x0
 go_loopw [43] (fun i wr => ∃ (k : Nat) (es : List ((ByteArray × ByteArray) × Int)), k ≤ W.length ∧ i = .int .i64 k ∧ CostM (CIn (W.take k) []) es ∧ MapIs wr m OkCh (costV es) ∧ es.length ≤ k ∧ Chg (· = m) W4 wr) (fun i _ => W.length - (intOf i).toNat)
 case atStart => exact ⟨0, [], Nat.zero_le _, rfl, CostM.start.congr (fun k c => by simp [CIn]), HM4.out, Nat.le_refl _, Chg.refl _ _⟩
 case round =>
  obtain ⟨k, es, hk, rfl, hC, hM, hel, hch⟩ := hrel
  have HR := Lib.hid (And.intro hC (And.intro hM hch))
  clear hC hM hch
  by_cases hkl : k < W.length
  ·obtain ⟨⟨-, -, hwr, -⟩, hb7⟩ := HK4.out wr HR.out.2.2
   obtain ⟨g, o, rfl, hg, hc⟩ := hwr.strs (by omega)
   have x0 := hc k hkl
   obtain ⟨x, hx⟩ : ∃ x, W[k] = x := ⟨_, rfl⟩
   rw [hx] at x0
   have x1 : wr.cell? ⟨m + 1, 0, none⟩ = some (.map (some m)) := hb7.cell 0
   obtain ⟨w6, es', hrun, hM6, hC6, hg6, hs6, hl6⟩ := cost_put HR.out.1 HR.out.2.1 x x 0 (fun d hd => by
    rcases ((HR.out.1.mem _ _).1 hd).1 with ⟨_, _, h⟩ | ⟨s, hs, _⟩
    ·omega
    ·cases hs)
   have htk : W.take (k + 1) = W.take k ++ [x] := by rw [List.take_add_one, List.getElem?_eq_getElem hkl, hx]; rfl
   have HN := Lib.hid (show CostM (CIn (W.take (k + 1)) []) es' ∧ MapIs w6 m OkCh (costV es') ∧ Chg (· = m) W4 w6 from ⟨by rw [htk]; exact hC6.congr (fun k c => cin_word _ _ _ _), hM6, HR.out.2.2.grown_in hg6 (fun r e => by cases e; rfl)⟩)
   clear hwr hc hx hM6 hC6 hg6 hs6 htk hb7
   go_wp2_with fail
   exact ⟨⟨k + 1, es', by omega, by go_num, HN.out.1, HN.out.2.1, by omega, HN.out.2.2⟩, by simp [intOf]; omega⟩
  ·obtain rfl : k = W.length := by omega
   have hC0 : CostM (CIn W (l.take 0)) es := by have := HR.out.1; rw [List.take_length] at this; exact this
   have HC0 := Lib.hid hC0
   clear hC0
   go_wp2_with fail
   obtain ⟨wo, rfl⟩ : ∃ wo : World, wo = wr := ⟨_, rfl⟩
   go_loopw [54] (fun i wr => ∃ (k : Nat) (es : List ((ByteArray × ByteArray) × Int)), k ≤ l.length ∧ i = .int .i64 k ∧ CostM (CIn W (l.take k)) es ∧ MapIs wr m OkCh (costV es) ∧ es.length ≤ W.length + k ∧ Chg (· = m) W4 wr) (fun i _ => l.length - (intOf i).toNat)
   case atStart => exact ⟨0, es, Nat.zero_le _, rfl, HC0.out, HR.out.2.1, by omega, HR.out.2.2⟩
   case round =>
    clear HR HC0 hel
    obtain ⟨k, es, hk, rfl, hC, hM, hel, hch⟩ := hrel
    have HR := Lib.hid (And.intro hC (And.intro hM hch))
    clear hC hM hch
    by_cases hkl : k < l.length
    ·obtain ⟨⟨-, hlr, -, -⟩, hb7⟩ := HK4.out wr HR.out.2.2
     obtain ⟨g, o, rfl, hg, hc⟩ := hlr.shts (by omega)
     obtain ⟨c0, c1, c2, c3⟩ := hc k hkl
     obtain ⟨s, hs⟩ : ∃ s, l[k] = s := ⟨_, rfl⟩
     rw [hs] at c0 c1 c2 c3
     have htk : l.take (k + 1) = l.take k ++ [s] := by rw [List.take_add_one, List.getElem?_eq_getElem hkl, hs]; rfl
     have Htk := Lib.hid htk
     have HB7 := Lib.hid hb7
     clear hlr hc hs htk hb7
     go_upto_region 13 with (fail)
     obtain ⟨W5, hW5⟩ : ∃ W5 : World, W5 = wr.alloc (.cells #[.string s.lang, .string s.short, .string s.full, .int .i64 s.cost] 54) := ⟨_, rfl⟩
     rw [← hW5]
     have hb5 : Below wr.heap.size wr W5 := by rw [hW5]; exact (Below.refl _ _).alloc (Nat.le_refl _) _
     have hs5 : W5.heap.size = wr.heap.size + 1 := by rw [hW5]; simp
     have hk5 : Blk W5 wr.heap.size #[.string s.lang, .string s.short, .string s.full, .int .i64 s.cost] 54 := by rw [hW5]; exact Blk.new _ _ _
     clear hW5 c0 c1 c2 c3
     have d1 : W5.cell? ⟨wr.heap.size, 1, none⟩ = some (.string s.short) := hk5.cell 1
     have d2 : W5.cell? ⟨wr.heap.size, 2, none⟩ = some (.string s.full) := hk5.cell 2
     have Hk5 := Lib.hid (And.intro hk5 hb5)
     clear hk5 hb5
     go_upto_region 14 with (fail)
     clear d1 d2
     obtain ⟨W6, hW6⟩ : ∃ W6 : World, W6 = W5.alloc (.cells #[.string s.short, .string s.full] 69) := ⟨_, rfl⟩
     rw [← hW6]
     have hb6 : Below W5.heap.size W5 W6 := by rw [hW6]; exact (Below.refl _ _).alloc (Nat.le_refl _) _
     have hk6 : Blk W6 W5.heap.size #[.string s.short, .string s.full] 69 := by rw [hW6]; exact Blk.new _ _ _
     have hb56 : Below wr.heap.size wr W6 := Hk5.out.2.trans (hb6.mono (by omega))
     have hk56 := Hk5.out.1.below hb6 (by omega)
     have hM6 := MapIs.below HR.out.2.1 hb56 (MapIs.lt HR.out.2.1)
     have hb7 := HB7.out.below hb56 HB7.out.lt
     have d1 : W6.cell? ⟨W5.heap.size, 0, none⟩ = some (.string s.short) := hk6.cell 0
     have d2 : W6.cell? ⟨W5.heap.size, 1, none⟩ = some (.string s.full) := hk6.cell 1
     rw [hs5] at d1 d2
     have d3 : W6.cell? ⟨wr.heap.size, 3, none⟩ = some (.int .i64 s.cost) := hk56.cell 3
     have d4 : W6.cell? ⟨m + 1, 0, none⟩ = some (.map (some m)) := hb7.cell 0
     obtain ⟨v, t, hlk, ht⟩ := cost_look HR.out.1 s.short s.full
     have hlk6 := hlk W6 m hM6
     have HM6 := Lib.hid (And.intro hM6 (HR.out.2.2.trans (Chg.of_below _ hb56)))
     clear hW6 hb6 hk6 hb56 hk56 hM6 hb7 Hk5 hlk
     rcases ht with ⟨rfl, hin⟩ | ⟨rfl, rfl, hno⟩
     ·by_cases hcv : s.cost < v
      ·obtain ⟨w7, es', hrun, hM7, hC7, hg7, hs7, hl7⟩ := cost_put HR.out.1 HM6.out.1 s.short s.full s.cost (fun d hd => by
        have := ((HR.out.1.mem _ _).1 hd).uniq ((HR.out.1.mem _ _).1 hin)
        omega)
       have HN := Lib.hid (show CostM (CIn W (l.take (k + 1))) es' ∧ MapIs w7 m OkCh (costV es') ∧ Chg (· = m) W4 w7 from ⟨by rw [Htk.out]; exact hC7.congr (fun k c => cin_short _ _ _ _ _), hM7, HM6.out.2.grown_in hg7 (fun r e => by cases e; rfl)⟩)
       clear hM7 hC7 hg7 hs7 hin
       go_wp2_with fail
       exact ⟨⟨k + 1, es', by omega, by go_num, HN.out.1, HN.out.2.1, by omega, HN.out.2.2⟩, by simp [intOf]; omega⟩
      ·have HN := Lib.hid (show CostM (CIn W (l.take (k + 1))) es from by rw [Htk.out]; exact (HR.out.1.keep hin (by omega)).congr (fun k c => cin_short _ _ _ _ _))
       clear hin
       go_wp2_with fail
       exact ⟨⟨k + 1, es, by omega, by go_num, HN.out, HM6.out.1, by omega, HM6.out.2⟩, by simp [intOf]; omega⟩
     ·obtain ⟨w7, es', hrun, hM7, hC7, hg7, hs7, hl7⟩ := cost_put HR.out.1 HM6.out.1 s.short s.full s.cost (fun d hd => absurd hd (hno d))
      have HN := Lib.hid (show CostM (CIn W (l.take (k + 1))) es' ∧ MapIs w7 m OkCh (costV es') ∧ Chg (· = m) W4 w7 from ⟨by rw [Htk.out]; exact hC7.congr (fun k c => cin_short _ _ _ _ _), hM7, HM6.out.2.grown_in hg7 (fun r e => by cases e; rfl)⟩)
      clear hM7 hC7 hg7 hs7 hno
      go_wp2_with fail
      exact ⟨⟨k + 1, es', by omega, by go_num, HN.out.1, HN.out.2.1, by omega, HN.out.2.2⟩, by simp [intOf]; omega⟩
    ·obtain rfl : k = l.length := by omega
     have hCl : CostM (CIn W l) es := by have := HR.out.1; rwa [List.take_length] at this
     have HCl := Lib.hid (And.intro hCl HR.out.2)
     clear HR hCl
     go_upto_region 19 with (fail)
     obtain ⟨W8, hW8⟩ : ∃ W8 : World, W8 = (wr.alloc (.map #[] 0)).alloc (.cells #[.map (some wr.heap.size)] 71) := ⟨_, rfl⟩
     rw [← hW8]
     have hb8 : Below wr.heap.size wr W8 := by rw [hW8]; exact ((Below.refl _ _).alloc (Nat.le_refl _) _).alloc (by simp) _
     have hs8 : W8.heap.size = wr.heap.size + 2 := by rw [hW8]; simp
     have hM8 : MapIs W8 wr.heap.size OkStr [] := by rw [hW8]; exact (MapIs.made wr OkStr).alloc _
     have hk8 : Blk W8 (wr.heap.size + 1) #[.map (some wr.heap.size)] 71 := by rw [hW8]; have := Blk.new (wr.alloc (.map #[] 0)) #[.map (some wr.heap.size)] 71; simpa using this
     have hch8 : Chg (· = m) W4 W8 := HCl.out.2.2.trans (Chg.of_below _ hb8)
     have hMm : MapIs W8 m OkCh (costV es) := MapIs.below HCl.out.2.1 hb8 (MapIs.lt HCl.out.2.1)
     have hmw : m + 1 < wr.heap.size := by have := HCl.out.2.2.size; omega
     have x7 : W8.cell? ⟨m + 1, 0, none⟩ = some (.map (some m)) := (HK4.out W8 hch8).2.cell 0
     obtain ⟨cm, hcm⟩ : ∃ cm, wr.heap.size = cm := ⟨_, rfl⟩
     rw [hcm] at hs8 hM8 hk8 hmw ⊢
     have H8 := Lib.hid (And.intro hM8 (And.intro hk8 (And.intro hch8 (And.intro hMm HCl.out.1))))
     clear hW8 hb8 hM8 hk8 hch8 hMm HCl hcm
     go_wp2_with (refine (keysC_any (some m) W8).mono ?_; rintro e w9 ⟨rfl, hw9⟩; have Hw9 := Lib.hid hw9; clear hw9 x7)
     obtain ⟨W9, hW9⟩ : ∃ W9 : World, W9 = w9 := ⟨_, rfl⟩
     rw [← hW9]
     have hw9 : W9 = W8.alloc (.cells #[.map (some m)] 67) := hW9.trans Hw9.out
     have hb9 : Below W8.heap.size W8 W9 := by rw [hw9]; exact (Below.refl _ _).alloc (Nat.le_refl _) _
     have hs9 : W9.heap.size = cm + 3 := by rw [hw9]; simp [hs8]
     have hB9 : Blk W9 (cm + 2) #[.map (some m)] 67 := by rw [hw9, ← hs8]; exact Blk.new _ _ _
     have hT9 : TosAt W9 W9.heap.size cm [] [] := ⟨MapIs.below H8.out.1 hb9 (MapIs.lt H8.out.1), fun p hp => by simp at hp, fun k hk => absurd rfl hk, fun p hp => by simp at hp⟩
     have hM9 : MapIs W9 m OkCh (costV es) := MapIs.below H8.out.2.2.2.1 hb9 (MapIs.lt H8.out.2.2.2.1)
     have hk9 : Blk W9 (cm + 1) #[.map (some cm)] 71 := H8.out.2.1.below hb9 H8.out.2.1.lt
     have hc9 : Chg (· = m) W4 W9 := H8.out.2.2.1.trans (Chg.of_below _ hb9)
     have H9 := Lib.hid (And.intro hT9 (And.intro hM9 (And.intro hk9 (And.intro hc9 (And.intro H8.out.2.2.2.2 hB9)))))
     clear hw9 hb9 hB9 hT9 hM9 hk9 hc9 H8 Hw9 hW9
     have hmm := Hmm.out
     refine wp_reframe (fun u => (List.toArray (α := Value) (u 0 :: u 1 :: u 2 :: .pointer (some ⟨w.heap.size, 0, none⟩) :: u 4 :: u 5 :: u 6 :: .pointer (some ⟨m + 1, 0, none⟩) :: u 8 :: u 9 :: u 10 :: u 11 :: u 12 :: u 13 :: u 14 :: .pointer (some ⟨cm + 1, 0, none⟩) :: u 16 :: u 17 :: u 18 :: u 19 :: u 20 :: u 21 :: u 22 :: u 23 :: u 24 :: u 25 :: u 26 :: u 27 :: u 28 :: u 29 :: u 30 :: u 31 :: u 32 :: u 33 :: u 34 :: u 35 :: u 36 :: u 37 :: u 38 :: u 39 :: u 40 :: u 41 :: u 42 :: u 43 :: u 44 :: u 45 :: u 46 :: u 47 :: u 48 :: u 49 :: u 50 :: u 51 :: u 52 :: u 53 :: u 54 :: u 55 :: u 56 :: u 57 :: u 58 :: u 59 :: u 60 :: u 61 :: u 62 :: u 63 :: u 64 :: u 65 :: u 66 :: u 67 :: u 68 :: u 69 :: u 70 :: u 71 :: u 72 :: u 73 :: u 74 :: u 75 :: u 76 :: u 77 :: u 78 :: u 79 :: u 80 :: u 81 :: u 82 :: u 83 :: .func (.func 76) #[] #[.pointer (some ⟨cm + 2, 0, none⟩)] :: u 85 :: u 86 :: u 87 :: u 88 :: u 89 :: u 90 :: u 91 :: u 92 :: u 93 :: u 94 :: u 95 :: u 96 :: u 97 :: u 98 :: u 99 :: u 100 :: u 101 :: u 102 :: u 103 :: u 104 :: u 105 :: u 106 :: u 107 :: u 108 :: u 109 :: u 110 :: u 111 :: u 112 :: u 113 :: u 114 :: u 115 :: u 116 :: u 117 :: []))) rfl ?_
     intro u
     refine (wpIn_wide (n := 5)).1 ?_
     refine wpIn_range_rounds2 (α := ByteArray × ByteArray) (encs := fun x => #[chV x]) (Kp := KeepM m (cm + 2)) (S := fun ys => (ys.map chV).Perm ((costV es).map (·.1))) (Sp := fun _ => True) (N := (costV es).length) (w0 := W9)
      rfl (by omega) (gf := 76) (lb := #[.pointer (some ⟨cm + 2, 0, none⟩)]) rfl trivial (enters_of Tryz.func76 (by kernel_rfl) rfl)
      ?seq (fun h k => h.trans k) ?kb (Below.refl _ _) (fun _ => rfl)
      (fun pre X => (∃ esT, TosAt X W9.heap.size cm pre esT) ∧ Chg (fun k => k = cm) W9 X)
      ?hI ?h0
      (fun Wz x a' X => ∃ g, a' = { tmps := (List.toArray (α := Value) (u 0 :: u 1 :: u 2 :: .pointer (some ⟨w.heap.size, 0, none⟩) :: u 4 :: u 5 :: u 6 :: .pointer (some ⟨m + 1, 0, none⟩) :: u 8 :: u 9 :: u 10 :: u 11 :: u 12 :: u 13 :: u 14 :: .pointer (some ⟨cm + 1, 0, none⟩) :: .pointer (some ⟨g, 0, none⟩) :: u 17 :: u 18 :: u 19 :: u 20 :: u 21 :: u 22 :: u 23 :: u 24 :: u 25 :: u 26 :: u 27 :: u 28 :: u 29 :: u 30 :: u 31 :: u 32 :: u 33 :: u 34 :: u 35 :: u 36 :: u 37 :: u 38 :: u 39 :: u 40 :: u 41 :: u 42 :: u 43 :: u 44 :: u 45 :: u 46 :: u 47 :: u 48 :: u 49 :: u 50 :: u 51 :: u 52 :: u 53 :: u 54 :: u 55 :: u 56 :: u 57 :: u 58 :: u 59 :: u 60 :: u 61 :: u 62 :: u 63 :: u 64 :: u 65 :: u 66 :: u 67 :: u 68 :: u 69 :: u 70 :: u 71 :: u 72 :: u 73 :: u 74 :: u 75 :: u 76 :: u 77 :: u 78 :: u 79 :: u 80 :: u 81 :: u 82 :: u 83 :: .func (.func 76) #[] #[.pointer (some ⟨cm + 2, 0, none⟩)] :: .agg #[.string x.1, .string x.2] :: u 86 :: u 87 :: u 88 :: u 89 :: u 90 :: u 91 :: u 92 :: u 93 :: u 94 :: u 95 :: u 96 :: u 97 :: u 98 :: u 99 :: u 100 :: u 101 :: u 102 :: u 103 :: u 104 :: u 105 :: u 106 :: u 107 :: u 108 :: u 109 :: u 110 :: u 111 :: u 112 :: u 113 :: u 114 :: u 115 :: u 116 :: u 117 :: [])), defers := [] } ∧ Blk X g #[.string x.1, .string x.2] 69 ∧ W9.heap.size ≤ g ∧ KeepM m (cm + 2) Wz X)
      ?hAx ?assign ?body ?done
     case seq => exact keysC_seq 4 (by omega) (cm + 2) m (costV es) W9 H9.out.2.2.2.2.2 H9.out.2.1
     case kb =>
      intro X lv ob ob' hl h1 _ h3
      exact keepM_put (B := W9.heap.size) (by omega) (by omega) X lv ob ob' hl h1 h3
     case hI =>
      rintro pre X Y row ⟨⟨esT, h1⟩, h2⟩ hg hr
      exact ⟨⟨esT, h1.kept hg (fun r e => ⟨by have := (hr r e).1; omega, (hr r e).2⟩)⟩, h2.grown_from hg (fun r e => (hr r e).1)⟩
     case h0 => exact ⟨⟨[], H9.out.1⟩, Chg.refl _ _⟩
     case hAx =>
      rintro Wz x a' X lv ob ob' ⟨g, rfl, k1, k2, k3⟩ hl h1 h2 h3
      refine ⟨g, rfl, ?_, k2, k3.trans (keepM_put (B := W9.heap.size) (by omega) (by omega) X lv ob ob' hl h1 h3)⟩
      unfold Blk at k1 ⊢
      rw [World.putObj_heap_other (fun e => ?_)]
      ·exact k1
      ·subst e
       rw [h1] at k1
       obtain rfl := Option.some.inj k1
       cases h2
     case assign =>
      rintro lv pre x X K ⟨⟨esT, h1⟩, h2⟩ hK
      have hz := h2.size
      have hb : Below X.heap.size X (X.alloc (.cells #[.string x.1, .string x.2] 69)) := (Below.refl _ _).alloc (Nat.le_refl _) _
      have Hb := Lib.hid hb
      clear hb
      unfold chV
      gi_wp2
      refine hK _ _ ⟨Hb.out.size, fun k o _ hk _ => (Hb.out.block k (Array.getElem?_eq_some_iff.1 hk).1).trans hk⟩ ⟨⟨esT, h1.below Hb.out⟩, h2.trans (Chg.of_below _ Hb.out)⟩ ⟨X.heap.size, rfl, Blk.new _ _ _, hz, keepM_below Hb.out (by omega) (by omega)⟩
     case body =>
      rintro lv pre x a' Wz X1 ⟨⟨esT, hT1⟩, hc1⟩ ⟨g, rfl, hg1, hg9, hkm⟩ hlt1
      have hz := hc1.size
      obtain ⟨v0, hv0, hown0, hlk0⟩ := hT1.look x.1
      obtain ⟨va, vc, rfl, -, -⟩ := RowAt.of_own hown0
      have hlen : (tosOf pre x.1).length ≤ pre.length := by unfold tosOf; rw [List.length_map]; exact List.length_filter_le _ _
      have hcl : (costV es).length = es.length := by simp [costV]
      have hWl := HPl.out.2.1
      have hll := Hp.out.most
      have hba : Below X1.heap.size X1 ((X1.alloc (.cells #[.string x.2] 9)).drew) := ((Below.refl _ _).alloc (Nat.le_refl _) _).drew
      have hkx : Blk X1 (cm + 1) #[.map (some cm)] 71 := H9.out.2.2.1.chg hc1 (by omega)
      have hlkd : (Instr.lookup 71 (.map (some cm)) (.string x.1) false).run Tryz.prog X1.drew = .ok (.slice va (tosOf pre x.1).length vc) X1.drew := hT1.look_at (w' := X1.drew) rfl hv0
      have hTa := hT1.below hba
      have hlka : (Instr.lookup 71 (.map (some cm)) (.string x.1) false).run Tryz.prog ((X1.alloc (.cells #[.string x.2] 9)).drew) = .ok (.slice va (tosOf pre x.1).length vc) ((X1.alloc (.cells #[.string x.2] 9)).drew) := hTa.look_at rfl hv0
      have hxa := hkx.below hba hkx.lt
      have hga := hg1.below hba hg1.lt
      have Ha := Lib.hid (And.intro hTa (And.intro (own_below hown0 hba) (And.intro hv0 (And.intro hba (And.intro hxa hga)))))
      have HX := Lib.hid (And.intro hT1 (And.intro hown0 (And.intro hc1 hkm)))
      have s1 : X1.drew.cell? ⟨cm + 1, 0, none⟩ = some (.map (some cm)) := hkx.cell 0
      have s2 : X1.drew.cell? ⟨g, 0, none⟩ = some (.string x.1) := hg1.cell 0
      have s3 : X1.drew.cell? ⟨g, 1, none⟩ = some (.string x.2) := hg1.cell 1
      have hS0 : X1.drew.cell? ⟨cm + 1, 0, none⟩ = some (.map (some cm)) ∧ X1.drew.cell? ⟨g, 0, none⟩ = some (.string x.1) ∧ X1.drew.cell? ⟨g, 1, none⟩ = some (.string x.2) := ⟨s1, s2, s3⟩
      have HSa := Lib.hid (show ((X1.alloc (.cells #[.string x.2] 9)).drew).cell? ⟨cm + 1, 0, none⟩ = some (.map (some cm)) ∧ ((X1.alloc (.cells #[.string x.2] 9)).drew).cell? ⟨g, 0, none⟩ = some (.string x.1) ∧ ((X1.alloc (.cells #[.string x.2] 9)).drew).cell? ⟨g, 1, none⟩ = some (.string x.2) from ⟨hxa.cell 0, hga.cell 0, hga.cell 1⟩)
      clear s1 s2 s3 hT1 hc1 hkm hown0 hv0 hlk0 hTa hxa hga hba hkx hg1
      gi_wp2
      refine wpIn_region_held (S := fun w' => w'.cell? ⟨cm + 1, 0, none⟩ = some (.map (some cm)) ∧ w'.cell? ⟨g, 0, none⟩ = some (.string x.1) ∧ w'.cell? ⟨g, 1, none⟩ = some (.string x.2)) (by kernel_rfl) (by kernel_rfl) (by rintro ⟨_, _, h⟩; first | exact h | cases h.1) ?_
      refine wpAnyH_take (i := 0) (v := .map (some cm)) rfl (by kernel_rfl) (by kernel_rfl) (by kernel_rfl) (fun _ _ _ h => h) (Or.inl ⟨by rfl, ?_⟩) (by assumption) ?_
      ·intro w' hSw
       obtain ⟨s0, s1, s2⟩ := hSw
       go_simp
      try simp only [Act.put, List.setIfInBounds_toArray]
      refine wpAnyH_take (i := 1) (v := .pointer (some ⟨g, 0, none⟩)) rfl (by kernel_rfl) (by kernel_rfl) (by kernel_rfl) (fun _ _ _ h => h) (Or.inl ⟨by rfl, ?_⟩) (by assumption) ?_
      ·intro w' hSw
       obtain ⟨s0, s1, s2⟩ := hSw
       go_simp
      try simp only [Act.put]
      refine wpAnyH_take (i := 2) (v := .string x.1) rfl (by kernel_rfl) (by kernel_rfl) (by kernel_rfl) (fun _ _ _ h => h) (Or.inl ⟨by rfl, ?_⟩) (by assumption) ?_
      ·intro w' hSw
       obtain ⟨s0, s1, s2⟩ := hSw
       go_simp
      try simp only [Act.put]
      refine wpAnyH_take (i := 3) (v := .map (some cm)) rfl (by kernel_rfl) (by kernel_rfl) (by kernel_rfl) (fun _ _ _ h => h) (Or.inl ⟨by rfl, ?_⟩) (by assumption) ?_
      ·intro w' hSw
       obtain ⟨s0, s1, s2⟩ := hSw
       go_simp
      try simp only [Act.put]
      refine wpAnyH_take (i := 4) (v := .pointer (some ⟨g, 0, none⟩)) rfl (by kernel_rfl) (by kernel_rfl) (by kernel_rfl) (fun _ _ _ h => h) (Or.inl ⟨by rfl, ?_⟩) (by assumption) ?_
      ·intro w' hSw
       obtain ⟨s0, s1, s2⟩ := hSw
       go_simp
      try simp only [Act.put]
      refine wpAnyH_take (i := 5) (v := .string x.1) rfl (by kernel_rfl) (by kernel_rfl) (by kernel_rfl) (fun _ _ _ h => h) (Or.inl ⟨by rfl, ?_⟩) (by assumption) ?_
      ·intro w' hSw
       obtain ⟨s0, s1, s2⟩ := hSw
       go_simp
      try simp only [Act.put]
      refine wpAnyH_take (i := 7) (v := .pointer (some ⟨g, 1, none⟩)) rfl (by kernel_rfl) (by kernel_rfl) (by kernel_rfl) (fun _ _ _ h => h) (Or.inl ⟨by rfl, ?_⟩) (by assumption) ?_
      ·intro w' hSw
       obtain ⟨s0, s1, s2⟩ := hSw
       go_simp
      try simp only [Act.put]
      refine wpAnyH_take (i := 8) (v := .string x.2) rfl (by kernel_rfl) (by kernel_rfl) (by kernel_rfl) (fun _ _ _ h => h) (Or.inl ⟨by rfl, ?_⟩) (by assumption) ?_
      ·intro w' hSw
       obtain ⟨s0, s1, s2⟩ := hSw
       go_simp
      try simp only [Act.put]
      refine wpAnyH_ready (rs := [6, 9]) (by kernel_rfl) (by simp) ?_
      refine AllReadyH.cons rfl (fun K hK => ?_) (AllReadyH.cons rfl (fun K hK => ?_) AllReadyH.nil)
      ·simp only [Act.put, List.getElem_toArray, List.getElem_cons_succ, List.getElem_cons_zero, List.setIfInBounds_toArray, List.set_cons_zero, List.set_cons_succ]
       go_simp
       refine hK.out _ _ hS0 (fun _ => ?_)
       clear hK K
       refine wpAnyH_ready (rs := [9]) (by kernel_rfl) (by simp) ?_
       refine AllReadyH.cons rfl (fun K hK => ?_) AllReadyH.nil
       try simp only [Act.put, List.getElem_toArray, List.getElem_cons_succ, List.getElem_cons_zero, List.setIfInBounds_toArray, List.set_cons_zero, List.set_cons_succ]
       go_simp
       refine hK.out _ _ HSa.out (fun _ => ?_)
       clear hK K
       try simp only [Act.put, List.getElem_toArray, List.getElem_cons_succ, List.getElem_cons_zero, List.setIfInBounds_toArray, List.set_cons_zero, List.set_cons_succ]
       refine wpAnyH_ready (rs := [10]) (by kernel_rfl) (by simp) ?_
       refine AllReadyH.cons rfl (fun K hK => ?_) AllReadyH.nil
       refine step_append_lies _ (by rfl) _ _ _ (by rfl) W9.heap.size 9 i0 (.string ByteArray.empty) 1 16 Tryz.underlying29 hi hz0 hz1 hz2 rfl (by decide) (.slice va (tosOf pre x.1).length vc) (tosOf pre x.1).length (strs (tosOf pre x.1)) (by rfl) Ha.out.2.1 ⟨X1.heap.size, 0, none⟩ 1 1 [.string x.2] (by rfl) rfl (by exact cell_one_new _ _ _) (by simp [Value.oneCell']) (by decide) (by unfold maxLen; omega) (by omega) (by simp; omega) _ rfl ?_
       intro gg cap X2 hown2 hgrow hat hlt
       obtain ⟨X3, es3, hput, hT3, hg3, hs3⟩ := Ha.out.1.step x Ha.out.2.2.1 hown2 hgrow hat
       have hbx := (Ha.out.2.2.2.2.1).grown hgrow (fun e => Blk.own_ne Ha.out.2.2.2.2.1 Ha.out.2.1 (by decide) e.symm)
       have hbg := (Ha.out.2.2.2.2.2).grown hgrow (fun e => Blk.own_ne Ha.out.2.2.2.2.2 Ha.out.2.1 (by decide) e.symm)
       have hmX : MapIs X2 cm OkStr esT := Ha.out.1.isMap.grown hgrow (fun e => own_ne_mapB Ha.out.2.1 Ha.out.1.isMap e.symm)
       have hbx3 := hbx.grown hg3 (fun e => by injection e with e; omega)
       have hbg3 := hbg.grown hg3 (fun e => Blk.ne_mapB hbg hmX (by injection e))
       have HE := Lib.hid (tos_end (m := m) (Bt := cm + 2) HX.out.1 HX.out.2.1 Ha.out.2.2.2.1 hgrow hT3 hg3 HX.out.2.2.1 (by omega) (by omega) (by omega) (by omega) (by omega))
       refine hK.out _ _ ⟨hbx.cell 0, hbg.cell 0, hbg.cell 1⟩ (fun _ => ?_)
       clear hK K hat hlt hgrow hown2 hT3 hmX
       try simp only [Act.put, List.getElem_toArray, List.getElem_cons_succ, List.getElem_cons_zero, List.setIfInBounds_toArray, List.set_cons_zero, List.set_cons_succ]
       refine wpAnyH_ready (rs := [11]) (by kernel_rfl) (by simp) ?_
       refine AllReadyH.cons rfl (fun K hK => ?_) AllReadyH.nil
       go_simp
       refine hK.out _ _ ⟨hbx3.cell 0, hbg3.cell 0, hbg3.cell 1⟩ (fun _ => ?_)
       clear hK K
       refine wpAnyH_done (by kernel_rfl) ?_ _
       exact ⟨rfl, HE.out.1, HX.out.2.2.2.trans HE.out.2.1, HE.out.2.2.1, HE.out.2.2.2⟩
      ·simp only [Act.put, List.getElem_toArray, List.getElem_cons_succ, List.getElem_cons_zero, List.setIfInBounds_toArray, List.set_cons_zero, List.set_cons_succ]
       go_simp
       refine hK.out _ _ HSa.out (fun _ => ?_)
       clear hK K
       refine wpAnyH_ready (rs := [6]) (by kernel_rfl) (by simp) ?_
       refine AllReadyH.cons rfl (fun K hK => ?_) AllReadyH.nil
       try simp only [Act.put, List.getElem_toArray, List.getElem_cons_succ, List.getElem_cons_zero, List.setIfInBounds_toArray, List.set_cons_zero, List.set_cons_succ]
       go_simp
       refine hK.out _ _ HSa.out (fun _ => ?_)
       clear hK K
       try simp only [Act.put, List.getElem_toArray, List.getElem_cons_succ, List.getElem_cons_zero, List.setIfInBounds_toArray, List.set_cons_zero, List.set_cons_succ]
       refine wpAnyH_ready (rs := [10]) (by kernel_rfl) (by simp) ?_
       refine AllReadyH.cons rfl (fun K hK => ?_) AllReadyH.nil
       refine step_append_lies _ (by rfl) _ _ _ (by rfl) W9.heap.size 9 i0 (.string ByteArray.empty) 1 16 Tryz.underlying29 hi hz0 hz1 hz2 rfl (by decide) (.slice va (tosOf pre x.1).length vc) (tosOf pre x.1).length (strs (tosOf pre x.1)) (by rfl) Ha.out.2.1 ⟨X1.heap.size, 0, none⟩ 1 1 [.string x.2] (by rfl) rfl (by exact cell_one_new _ _ _) (by simp [Value.oneCell']) (by decide) (by unfold maxLen; omega) (by omega) (by simp; omega) _ rfl ?_
       intro gg cap X2 hown2 hgrow hat hlt
       obtain ⟨X3, es3, hput, hT3, hg3, hs3⟩ := Ha.out.1.step x Ha.out.2.2.1 hown2 hgrow hat
       have hbx := (Ha.out.2.2.2.2.1).grown hgrow (fun e => Blk.own_ne Ha.out.2.2.2.2.1 Ha.out.2.1 (by decide) e.symm)
       have hbg := (Ha.out.2.2.2.2.2).grown hgrow (fun e => Blk.own_ne Ha.out.2.2.2.2.2 Ha.out.2.1 (by decide) e.symm)
       have hmX : MapIs X2 cm OkStr esT := Ha.out.1.isMap.grown hgrow (fun e => own_ne_mapB Ha.out.2.1 Ha.out.1.isMap e.symm)
       have hbx3 := hbx.grown hg3 (fun e => by injection e with e; omega)
       have hbg3 := hbg.grown hg3 (fun e => Blk.ne_mapB hbg hmX (by injection e))
       have HE := Lib.hid (tos_end (m := m) (Bt := cm + 2) HX.out.1 HX.out.2.1 Ha.out.2.2.2.1 hgrow hT3 hg3 HX.out.2.2.1 (by omega) (by omega) (by omega) (by omega) (by omega))
       refine hK.out _ _ ⟨hbx.cell 0, hbg.cell 0, hbg.cell 1⟩ (fun _ => ?_)
       clear hK K hat hlt hgrow hown2 hT3 hmX
       try simp only [Act.put, List.getElem_toArray, List.getElem_cons_succ, List.getElem_cons_zero, List.setIfInBounds_toArray, List.set_cons_zero, List.set_cons_succ]
       refine wpAnyH_ready (rs := [11]) (by kernel_rfl) (by simp) ?_
       refine AllReadyH.cons rfl (fun K hK => ?_) AllReadyH.nil
       go_simp
       refine hK.out _ _ ⟨hbx3.cell 0, hbg3.cell 0, hbg3.cell 1⟩ (fun _ => ?_)
       clear hK K
       refine wpAnyH_done (by kernel_rfl) ?_ _
       exact ⟨rfl, HE.out.1, HX.out.2.2.2.trans HE.out.2.1, HE.out.2.2.1, HE.out.2.2.2⟩
     case done =>
      rintro D ys X hD hS ⟨⟨esT, hT⟩, hc⟩ hKD
      have hper := perm_chV hS
      have hR : RowsOf l W (rowOf es ys) := ⟨fun x hx => rowOf_is H9.out.2.2.2.2.1 hper hx⟩
      have hyl : ys.length ≤ 112 := by
       have h0 := hper.length_eq
       have h1 := Hp.out.most
       have h2 := HPl.out.2.1
       rw [List.length_map] at h0
       omega
      have hsz := hc.size
      have hX4 : Chg (· = m) W4 X := ⟨hc.os.trans H9.out.2.2.2.1.os, hc.tape.trans H9.out.2.2.2.1.tape, hc.output.trans H9.out.2.2.2.1.output, Nat.le_trans H9.out.2.2.2.1.size hc.size, fun k hk hne => (hc.block k (by omega) (by omega)).trans (H9.out.2.2.2.1.block k hk hne)⟩
      have HF := Lib.hid (And.intro hR (And.intro (hT.row) (And.intro hX4 (And.intro (H9.out.2.1.chg hc (by omega)) (H9.out.2.2.1.chg hc (by omega))))))
      have HKD := Lib.hid (And.intro hKD hper)
      obtain ⟨f, hf⟩ : ∃ f, rowOf es ys = f := ⟨_, rfl⟩
      have Hf := Lib.hid (fun x => show (f x).length = (tosOf ys x).length by rw [← hf]; exact rowOf_len es ys x)
      have Hfe := Lib.hid hf
      rw [hf] at HF
      clear hS hT hc hKD hper hR hX4 hf
      have x0 := ((HK4.out X HF.out.2.2.1).1).1
      have xc : X.cell? ⟨cm + 1, 0, none⟩ = some (.map (some cm)) := HF.out.2.2.2.2.cell 0
      go_wp2_with fail
      go_loop [17, 99] (fun c i => ∃ k : Nat, k ≤ W.length ∧ i = .int .i64 k ∧ c = .int .i64 ((prodN ((W.map f).take k) : Nat) : Int) ∧ prodN ((W.map f).take k) ≤ 64) (fun _ i => W.length - (intOf i).toNat)
      case atStart => exact ⟨0, Nat.zero_le _, rfl, rfl, by simp [prodN]⟩
      case round =>
       obtain ⟨k, hk, rfl, rfl, hpk⟩ := hrel
       by_cases hkl : k < W.length
       ·obtain ⟨g, o, rfl, hg, hwc⟩ := (HK4.out X HF.out.2.2.1).1.2.2.1.strs (by omega)
        have x1 := hwc k hkl
        obtain ⟨x, hx⟩ : ∃ x, W[k] = x := ⟨_, rfl⟩
        rw [hx] at x1
        obtain ⟨ra, rc, hlk, -⟩ := HF.out.2.1 x
        have hlk1 := hlk X rfl
        have hfk : (W.map f)[k]? = some (f x) := by rw [List.getElem?_map, List.getElem?_eq_getElem hkl, hx]; rfl
        have hps := prod_step hfk
        rw [Hf.out x] at hps
        have htl := tosOf_len ys x
        obtain ⟨p, hp⟩ : ∃ p, prodN ((W.map f).take k) = p := ⟨_, rfl⟩
        obtain ⟨n, hn⟩ : ∃ n, (tosOf ys x).length = n := ⟨_, rfl⟩
        rw [hp] at hpk hps ⊢
        rw [hn] at hlk1 hps htl
        have hpn : p * n ≤ 64 * 112 := Nat.mul_le_mul hpk (by omega)
        have hwrap : IntKind.i64.wrap ((p : Int) * (n : Int)) = ((p * n : Nat) : Int) := by
         have e : (p : Int) * (n : Int) = ((p * n : Nat) : Int) := by simp
         rw [e]
         exact IntWalk.i64_in _ (by omega)
        have Hps := Lib.hid (And.intro hps hp)
        obtain ⟨q, hq⟩ : ∃ q, p * n = q := ⟨_, rfl⟩
        rw [hq] at hpn hwrap
        have Hq := Lib.hid hq
        clear hlk hfk hps hn hx hwc hp hq
        by_cases hbig : 64 < q
        ·have Hlim := Lib.hid (show SpellOf l W [] 2 from .inr (.inl ⟨⟨Hp.out, HPl.out⟩, by
          have h1 := prodN_take_le (Cs := W.map f) (fun C hC => by
           obtain ⟨y, hy, rfl⟩ := List.mem_map.1 hC
           exact HF.out.1.pos Hp.out y hy) (k + 1)
          rw [Hps.out.1, Hq.out, HF.out.1.prod] at h1
          omega, rfl, rfl⟩))
         go_wp2_with fail
         exact sp_mark (L := []) Hlim.out rfl rfl (by omega) HKD.out.1 (World.ownsRow_nil _ _ _ _) (by simp) (HK4.out X HF.out.2.2.1).1.2.2.2
        ·go_wp2_with fail
         exact ⟨⟨k + 1, by omega, by go_num, by rw [Hps.out.1, Hq.out], by rw [Hps.out.1, Hq.out]; omega⟩, by simp [intOf]; omega⟩
       ·obtain rfl : k = W.length := by omega
        have hpr : prodN (W.map f) ≤ 64 := by rw [List.take_of_length_le (by simp)] at hpk; exact hpk
        have Hpr := Lib.hid hpr
        clear hpr hpk x0 xc
        go_upto_region 32 with (fail)
        generalize hY1 : ((X.alloc _).alloc _) = Y1
        have k20 : Blk Y1 X.heap.size #[.slice none 0 0] 36 := by rw [← hY1]; exact (Blk.new _ _ _).alloc _
        obtain ⟨T, k21⟩ : ∃ T, Blk Y1 (X.heap.size + 1) #[.nilFunc] T := by
         rw [← hY1]; have := Blk.new (X.alloc (.cells #[.slice none 0 0] 36)) #[.nilFunc]; simp only [World.size_alloc] at this; exact ⟨_, this _⟩
        have hbY1 : Below X.heap.size X Y1 := by rw [← hY1]; exact ((Below.refl _ _).alloc (Nat.le_refl _) _).alloc (by simp) _
        have hsY1 : Y1.heap.size = X.heap.size + 2 := by rw [← hY1]; simp
        clear hY1
        obtain ⟨ob, hob⟩ : ∃ ob, X.heap.size = ob := ⟨_, rfl⟩
        rw [hob] at k20 k21 hbY1 hsY1 ⊢
        have f21 := k21.frozen 0
        have c21 : Y1.cell? ⟨ob + 1, 0, none⟩ = some .nilFunc := k21.cell 0
        go_upto_region 33 with (fail)
        generalize hY : Y1.setCell _ _ = Y
        have k20' : Blk Y ob #[.slice none 0 0] 36 := by rw [← hY]; exact k20.far (by show ob ≠ ob + 1; omega) _
        have k21' : Blk Y (ob + 1) #[.func (.func 38) #[] #[.pointer (some ⟨w.heap.size, 0, none⟩), .pointer (some ⟨ob, 0, none⟩), .pointer (some ⟨cm + 1, 0, none⟩), .pointer (some ⟨ob + 1, 0, none⟩), .pointer (some ⟨m + 1, 0, none⟩)]] T := by rw [← hY]; exact k21.set_ 0 _
        have hbY : Below ob X Y := by rw [← hY]; exact hbY1.setCell (by show ob ≤ ob + 1; omega) _
        have hsY : Y.heap.size = ob + 2 := by rw [← hY]; simp [hsY1]
        clear hY k20 k21 hbY1 hsY1 f21 c21
        have hcl : cm + 1 < ob := by rw [← hob]; exact HF.out.2.2.2.2.lt
        have hrows : ∀ k : Nat, ∃ (a : Option Addr) (c : Nat), ∀ x, W[k]? = some x → (∀ wr : World, wr.heap[cm]? = X.heap[cm]? → (Instr.lookup 71 (.map (some cm)) (.string x) false).run Tryz.prog wr = .ok (.slice a (tosOf ys x).length c) wr) ∧ X.ownsRow W9.heap.size 9 1 (.slice a (tosOf ys x).length c) (tosOf ys x).length (strs (tosOf ys x)) := fun k => by
         cases hk : W[k]? with
         | none => exact ⟨none, 0, fun x h => by cases h⟩
         | some y =>
          obtain ⟨a, c, h1, h2⟩ := HF.out.2.1 y
          exact ⟨a, c, fun x h => by cases h; exact ⟨h1, h2⟩⟩
        obtain ⟨RA, RC, hRA⟩ := choice2 hrows
        have hW1 := HPl.out.1
        have hW12 := HPl.out.2.1
        have hHX : ∀ wr, Chg (· = ob) Y wr → wr.cell? ⟨w.heap.size, 0, none⟩ = some (.slice wa W.length wc) ∧ RowAt wr wr.heap.size wa (strs W) ∧ wr.cell? ⟨cm + 1, 0, none⟩ = some (.map (some cm)) ∧ wr.cell? ⟨m + 1, 0, none⟩ = some (.map (some m)) ∧
          wr.cell? ⟨ob + 1, 0, none⟩ = some (.func (.func 38) #[] #[.pointer (some ⟨w.heap.size, 0, none⟩), .pointer (some ⟨ob, 0, none⟩), .pointer (some ⟨cm + 1, 0, none⟩), .pointer (some ⟨ob + 1, 0, none⟩), .pointer (some ⟨m + 1, 0, none⟩)]) ∧
          (∀ (k : Nat) (x : ByteArray) (C : List (ByteArray × Int)), W[k]? = some x → (W.map f)[k]? = some C → RowAt wr wr.heap.size (RA k) (strs (C.map (·.1))) ∧ (Instr.lookup 71 (.map (some cm)) (.string x) false).run Tryz.prog wr = .ok (.slice (RA k) C.length (RC k)) wr ∧
           ∀ p ∈ C, (Instr.lookup 67 (.map (some m)) (.agg #[.string x, .string p.1]) false).run Tryz.prog wr = .ok (.int .i64 p.2) wr) := by
         intro wr hch
         have hbw : Below ob X wr := hbY.trans (hch.below (fun k hk => by cases hk; exact Nat.le_refl _) (by omega))
         obtain ⟨⟨z0, -, z1, -⟩, z2⟩ := HK4.out X HF.out.2.2.1
         rw [hob] at z1
         refine ⟨(hbw.cell (p := ⟨w.heap.size, 0, none⟩) (by show w.heap.size < ob; omega)).trans z0, (z1.below hbw (Nat.le_refl _)).more (by rw [← hob]; exact hbw.size), (HF.out.2.2.2.2.below hbw (by omega)).cell 0, (z2.below hbw (by omega)).cell 0, (k21'.chg hch (by omega)).cell 0, fun k x C hk hC => ?_⟩
         obtain ⟨h1, h2⟩ := hRA k x hk
         have hCf : C = f x := by rw [List.getElem?_map, hk] at hC; exact (Option.some.inj hC).symm
         subst hCf
         have hfst : (f x).map (·.1) = tosOf ys x := by rw [← Hfe.out]; exact rowOf_fst _ _ _
         refine ⟨?_, ?_, fun p hp => ?_⟩
         ·rw [hfst]
          obtain ⟨a, c, e1, -, e2⟩ := RowAt.of_own (own_below h2 (by rw [hob]; exact hbw))
          cases e1
          exact e2
         ·rw [Hf.out x]
          exact h1 wr (hbw.block cm (by omega))
         ·rw [← Hfe.out] at hp
          unfold rowOf at hp
          obtain ⟨t, ht, rfl⟩ := List.mem_map.1 hp
          obtain ⟨⟨kk, d⟩, hd, e⟩ := List.mem_map.1 (HKD.out.2.mem_iff.1 (mem_tosOf.1 ht))
          simp only at e
          subst e
          exact cost_is hd (HF.out.2.2.2.1.below hbw (by have := HF.out.2.2.2.1.lt; omega))
        have hcost := HF.out.1.cost Hp.out
        have hposW : ∀ C ∈ W.map f, 1 ≤ C.length := fun C hC => by
         obtain ⟨y, hy, rfl⟩ := List.mem_map.1 hC
         exact HF.out.1.pos Hp.out y hy
        have hpos2 := prod_le_of_pos hposW
        have HQ := Lib.hid (sp2_any Y w.heap.size ob (cm + 1) (ob + 1) (m + 1) W hW1 hW12 (W.map f) (by simp) (by omega) wa wc cm m RA RC hHX hcost (fun C hC => ⟨hposW C hC, Nat.le_trans (hpos2.2 C hC) Hpr.out⟩)
         W.length [] 0 (.slice none 0 0) [] (.slice none 0 0) Y (by simp) (by omega) (by simp) (by simpa using Hpr.out) (Chg.refl _ _) k20' (World.ownsRow_nil _ _ _ _) (World.ownsRow_nil _ _ _ _))
        have x21 : Y.cell? ⟨ob + 1, 0, none⟩ = some (.func (.func 38) #[] #[.pointer (some ⟨w.heap.size, 0, none⟩), .pointer (some ⟨ob, 0, none⟩), .pointer (some ⟨cm + 1, 0, none⟩), .pointer (some ⟨ob + 1, 0, none⟩), .pointer (some ⟨m + 1, 0, none⟩)]) := k21'.cell 0
        have HY := Lib.hid (And.intro hbY (And.intro hpos2.1 hsY))
        clear hHX hRA hrows hcost hposW hpos2 k20' k21' hbY hsY
        go_wp2_with (refine HQ.out.mono ?_; rintro e wA ⟨rfl, ovA, new, hboA, horA, -, hkeys, hsn, hchA⟩; clear x21; have xo := hboA.cell)
        have hexl : new.length = prodN (W.map f) := by have := congrArg List.length hkeys; rw [List.length_map, List.length_nil, List.drop_zero, exts_length] at this; exact this
        have hn0 : 0 < new.length := by rw [hexl]; exact HY.out.2.1
        have hn64 : new.length ≤ 64 := by rw [hexl]; exact Hpr.out
        clear hexl
        rw [List.nil_append] at horA
        obtain ⟨gS, cS, rfl⟩ : ∃ gS cS, ovA = .slice (some ⟨gS, 0, none⟩) new.length cS := by
         rcases horA.2 with ⟨-, h0⟩ | ⟨g, cap, cur, e, -, -, -, -⟩
         ·omega
         ·exact ⟨g, cap, e⟩
        have hkn : (new.map Spl.key).Nodup := by
         rw [hkeys, List.length_nil, List.drop_zero]
         exact nodup_of_fst (exts_fst_nodup _ _ _ (fun C hC => by
          obtain ⟨y, hy, rfl⟩ := List.mem_map.1 hC
          exact (HF.out.1.each y hy).nodup))
        have hgS := horA.lt gS rfl
        have hYA := hchA.size
        have hsA : Y.heap.size ≤ gS := hgS.1
        have HS := Lib.hid (sortSp_any new hn0 (nodup_inj hkn) gS cS Y.heap.size wA (fun x hx => by
         obtain ⟨y1, y2⟩ := hsn x hx
         obtain ⟨a, c, e1, -, e2⟩ := RowAt.of_own y2
         cases e1
         exact ⟨y1, e2, own_far y2 horA⟩) (by omega) horA)
        have HA := Lib.hid (And.intro hboA (And.intro horA (And.intro hkeys (And.intro hsn hchA))))
        clear hboA horA hkeys hsn hchA hkn
        refine HS.out.mono ?_
        rintro e wB ⟨rfl, S, hper, hpw, hoB, hcB⟩
        clear xo
        have xo2 : wB.cell? ⟨ob, 0, none⟩ = some (.slice (some ⟨gS, 0, none⟩) new.length cS) := (Blk.chg (show Blk wA ob #[.slice (some ⟨gS, 0, none⟩) new.length cS] 36 from HA.out.1) hcB (by have := HY.out.2.2; omega)).cell 0
        go_wp2_with fail
        have hSl := hper.length_eq
        have hXB : Below w.heap.size X wB := by
         refine ⟨hcB.os.trans (HA.out.2.2.2.2.os.trans HY.out.1.os), hcB.tape.trans (HA.out.2.2.2.2.tape.trans HY.out.1.tape), hcB.output.trans (HA.out.2.2.2.2.output.trans HY.out.1.output), Nat.le_trans HY.out.1.size (Nat.le_trans HA.out.2.2.2.2.size hcB.size), fun k hk => ?_⟩
         have hs2 := HY.out.2.2
         refine (hcB.block k (by omega) (by omega)).trans ((HA.out.2.2.2.2.block k (by omega) ?_).trans (HY.out.1.block k (by omega)))
         rintro (e | e | e)
         ·omega
         ·cases e
         ·have := e.1; omega
        have hDl := (Array.getElem?_eq_some_iff.1 HKD.out.1).1
        have hs2 := HY.out.2.2
        rw [hob] at hDl
        refine sp_mark (L := S) (spellOf_sorted Hp.out HPl.out HF.out.1 Hpr.out ?_ hpw) rfl rfl (by omega) ?_ ?_ ?_ ((HK4.out X HF.out.2.2.1).1.2.2.2.trans hXB)
        ·have h1 := hper.map Spl.key
         rw [HA.out.2.2.1, List.length_nil, List.drop_zero] at h1
         exact h1
        ·refine (hcB.block D (by omega) (by omega)).trans ((HA.out.2.2.2.2.block D (by omega) ?_).trans ((HY.out.1.block D (by omega)).trans HKD.out.1))
         rintro (e | e | e)
         ·omega
         ·cases e
         ·have := e.1; omega
        ·rw [hSl]
         exact own_base (base := Y.heap.size) hoB (by omega)
        ·intro x hx
         obtain ⟨y1, y2⟩ := HA.out.2.2.2.1 x (hper.mem_iff.1 hx)
         refine ⟨y1, own_base (own_chg y2 hcB (fun q hq e => ?_)) (by omega)⟩
         rcases own_ne y2 HA.out.2.1 (by decide) with r | r
         ·rw [hq] at r; cases r
         ·exact r (by rw [hq, e]; rfl)

end Go.Proofs.YthachfkcgdfdfaaGreatDoor
