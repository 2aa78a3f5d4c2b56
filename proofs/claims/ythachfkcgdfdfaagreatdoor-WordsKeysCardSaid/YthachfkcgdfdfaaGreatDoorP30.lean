/- RA · RD -/
import Derived.Test.YthachfkcgdfdfaaGreatDoorP27
import Derived.Test.YthachfkcgdfdfaaGreatDoorP29
import Derived.BigQuiet
import Derived.Deep.QuietTactic
/- Spellings in memory, as they are read; the cost of a list of words among spellings. -/
namespace Go.Proofs.YthachfkcgdfdfaaGreatDoor
open Go.RowKit Go.Shelf Classical

/-- A row of spellings, as it is read. -/
structure SplsAt (w : World) (B : Nat) (a : Option Addr) (L : List Spl) : Prop where
 row : RowAt w B a (L.flatMap Spl.cells)
 ok : ∀ x ∈ L, x.ok w B
section
variable {w w' : World} {B B' : Nat} {a : Option Addr} {L : List Spl}
theorem SplsAt.below (h : SplsAt w B a L) (hb : Below B' w w') (hB : B ≤ B') : SplsAt w' B a L := ⟨h.row.below hb hB, fun x hx => ⟨(h.ok x hx).1, (h.ok x hx).2.below hb hB⟩⟩
theorem SplsAt.more (h : SplsAt w B a L) (hB : B ≤ B') : SplsAt w B' a L := ⟨h.row.more hB, fun x hx => ⟨(h.ok x hx).1, (h.ok x hx).2.more hB⟩⟩
theorem SplsAt.get (h : SplsAt w B a L) (hn : 0 < L.length) : ∃ b off, a = some ⟨b, off, none⟩ ∧ b < B ∧ ∀ i (hi : i < L.length), w.cell? ⟨b, off + i * 2, none⟩ = some (.slice L[i].at_ L[i].ws.length L[i].cap) ∧ w.cell? ⟨b, off + i * 2 + 1, none⟩ = some (.int .i64 L[i].cost) := by
 have hk : ∀ x : Spl, x.cells.length = 2 := fun _ => rfl
 have hl := flatMap_lenK hk L
 obtain ⟨b, off, e, hb, hc⟩ := h.row (by rw [hl]; omega)
 refine ⟨b, off, e, hb, fun i hi => ?_⟩
 obtain ⟨x, h1, h2⟩ := flatMap_at hk (by decide) L (i * 2) (by omega)
 obtain ⟨y, h3, h4⟩ := flatMap_at hk (by decide) L (i * 2 + 1) (by omega)
 rw [show i * 2 / 2 = i by omega, List.getElem?_eq_getElem hi] at h1
 rw [show (i * 2 + 1) / 2 = i by omega, List.getElem?_eq_getElem hi] at h3
 obtain rfl := Option.some.inj h1
 obtain rfl := Option.some.inj h3
 rw [show i * 2 % 2 = 0 by omega] at h2
 rw [show (i * 2 + 1) % 2 = 1 by omega] at h4
 exact ⟨hc _ _ h2, hc _ _ h4⟩
end
set_option maxRecDepth 100000 in
set_option maxHeartbeats 1000000 in
theorem Texts17_q (a b : List ByteArray) (aa ba : Option Addr) (ac bc B : Nat) (hal : a.length ≤ maxLen) (w : World) (ha : RowAt w B aa (strs a)) (hb : RowAt w B ba (strs b)) :
  Calls Tryz.prog 18 #[.slice aa a.length ac, .slice ba b.length bc] w fun e w' => e = .returned (.bool (decide (a = b))) ∧ ∃ q, w' = w.drewN q := by
 unfold maxLen at hal
 go_enter Tryz.func18, Tryz.ntmps18
 by_cases hl : a.length = b.length
 ·have d1 : ((a.length : Int) != (b.length : Int)) = false := by simp [hl]
  have Hl := Lib.hid hl
  clear hl
  go_wp2_with fail
  go_loopw [5] (fun i wr => ∃ k : Nat, k ≤ a.length ∧ i = .int .i64 k ∧ (∀ j, j < k → a[j]? = b[j]?) ∧ ∃ q, wr = w.drewN q) (fun i _ => a.length - (intOf i).toNat)
  case atStart => exact ⟨0, Nat.zero_le _, rfl, by simp, 0, rfl⟩
  case round =>
   obtain ⟨k, hk, rfl, hto, q, hq⟩ := hrel
   have Hto := Lib.hid hto
   have Hq := Lib.hid hq
   clear hto hq
   by_cases hka : k < a.length
   ·have hkb : k < b.length := by have := Hl.out; omega
    obtain ⟨g, o, rfl, hg, hc⟩ := ha.strs (by omega)
    obtain ⟨g', o', rfl, hg', hc'⟩ := hb.strs (by omega)
    have x0 : wr.cell? ⟨g, o + k, none⟩ = some (.string a[k]) := by rw [Hq.out]; exact hc k hka
    have y0 : wr.cell? ⟨g', o' + k, none⟩ = some (.string b[k]) := by rw [Hq.out]; exact hc' k hkb
    clear hc hc'
    by_cases he : a[k] = b[k]
    ·have d2 : (a[k].toList == b[k].toList) = true := by rw [he]; simp
     have He := Lib.hid he
     clear he
     go_wp2_with fail
     go_quiet (fail)
     go_wp2
     exact ⟨⟨k + 1, by omega, by go_num, to_step Hto.out hka hkb He.out, _, by rw [Hq.out, World.drewN_drewN]⟩, by simp [intOf]; omega⟩
    ·have d2 : (a[k].toList == b[k].toList) = false := by
      rw [ByteArray.toList_eq, ByteArray.toList_eq, beq_eq_false_iff_ne]; exact fun e => he (bl_inj e)
     have He := Lib.hid he
     clear he
     go_wp2_with fail
     go_quiet (fail)
     go_wp2
     go_ret
     refine ⟨ret_no fun hab => He.out ?_, _, by rw [Hq.out, World.drewN_drewN]⟩
     subst hab; rfl
   ·go_wp2
    go_ret
    exact ⟨ret_yes (list_ext_to Hl.out fun j hj => Hto.out j (by omega)), _, Hq.out⟩
 ·have d1 : ((a.length : Int) != (b.length : Int)) = true := by simp; omega
  have Hl := Lib.hid hl
  clear hl
  go_wp2
  go_ret
  exact ⟨ret_no fun hab => Hl.out (by rw [hab]), 0, rfl⟩

theorem same_step {α : Type} {a b : List α} {k : Nat} (h : ∀ j, j < k → a[j]? = b[j]?) (hk : a[k]? = b[k]?) : ∀ j, j < k + 1 → a[j]? = b[j]? := fun j hj => by
 rcases Nat.lt_succ_iff_lt_or_eq.1 hj with q | rfl
 ·exact h j q
 ·exact hk
set_option maxRecDepth 100000 in
set_option maxHeartbeats 2000000 in
theorem Same_any (L M : List Spl) (la ma : Option Addr) (lc mc : Nat) (hL : L.length ≤ maxLen) (hM : M.length ≤ maxLen) (w : World) (h : SplsAt w w.heap.size la L) (hm : SplsAt w w.heap.size ma M) :
  Calls Tryz.prog 23 #[.slice la L.length lc, .slice ma M.length mc] w fun e w' => e = .returned (.bool (decide (L.map Spl.key = M.map Spl.key))) ∧ ∃ q, w' = w.drewN q := by
 unfold maxLen at hL hM
 have H := Lib.hid (And.intro h hm)
 clear h hm
 go_enter Tryz.func23, Tryz.ntmps23
 by_cases hl : L.length = M.length
 case neg =>
  have d1 : ((L.length : Int) != (M.length : Int)) = true := by simp; omega
  have Hl := Lib.hid hl
  clear hl
  go_wp2
  go_ret
  exact ⟨ret_no fun hab => Hl.out (by have := congrArg List.length hab; simpa using this), 0, rfl⟩
 have d1 : ((L.length : Int) != (M.length : Int)) = false := by simp [hl]
 have Hl := Lib.hid hl
 clear hl
 go_wp2_with fail
 go_loopw [5] (fun i wr => ∃ k : Nat, k ≤ L.length ∧ i = .int .i64 k ∧ (∀ j, j < k → (L.map Spl.key)[j]? = (M.map Spl.key)[j]?) ∧ ∃ q, wr = w.drewN q) (fun i _ => L.length - (intOf i).toNat)
 case atStart => exact ⟨0, Nat.zero_le _, rfl, by simp, 0, rfl⟩
 case round =>
  obtain ⟨k, hk, rfl, hto, q, hq⟩ := hrel
  have Hto := Lib.hid hto
  have Hq := Lib.hid hq
  clear hto hq
  by_cases hka : k < L.length
  ·have hkb : k < M.length := by have := Hl.out; omega
   obtain ⟨g, o, rfl, hg, hc⟩ := H.out.1.get (by omega)
   obtain ⟨g', o', rfl, hg', hc'⟩ := H.out.2.get (by omega)
   have x0 : wr.cell? ⟨g, o + k * 2, none⟩ = some (.slice L[k].at_ L[k].ws.length L[k].cap) := by rw [Hq.out]; exact (hc k hka).1
   have x1 : wr.cell? ⟨g, o + k * 2 + 1, none⟩ = some (.int .i64 L[k].cost) := by rw [Hq.out]; exact (hc k hka).2
   have y0 : wr.cell? ⟨g', o' + k * 2, none⟩ = some (.slice M[k].at_ M[k].ws.length M[k].cap) := by rw [Hq.out]; exact (hc' k hkb).1
   have y1 : wr.cell? ⟨g', o' + k * 2 + 1, none⟩ = some (.int .i64 M[k].cost) := by rw [Hq.out]; exact (hc' k hkb).2
   clear hc hc'
   have e1 : (L.map Spl.key)[k]? = some (L[k]).key := by rw [List.getElem?_map, List.getElem?_eq_getElem hka]; rfl
   have e2 : (M.map Spl.key)[k]? = some (M[k]).key := by rw [List.getElem?_map, List.getElem?_eq_getElem hkb]; rfl
   obtain ⟨x, hx⟩ : ∃ x, L[k] = x := ⟨_, rfl⟩
   obtain ⟨y, hy⟩ : ∃ y, M[k] = y := ⟨_, rfl⟩
   rw [hx] at x0 x1 e1
   rw [hy] at y0 y1 e2
   have hok := H.out.1.ok x (by rw [← hx]; exact List.getElem_mem hka)
   have hok' := H.out.2.ok y (by rw [← hy]; exact List.getElem_mem hkb)
   have HT := Lib.hid (fun (n : Nat) => Texts17_q x.ws y.ws x.at_ y.at_ x.cap y.cap w.heap.size hok.1 (wr.drewN n) (by rw [Hq.out]; exact hok.2) (by rw [Hq.out]; exact hok'.2))
   have He := Lib.hid (And.intro e1 e2)
   clear hok hok' hx hy e1 e2
   by_cases hcost : x.cost = y.cost
   ·have d2 : (x.cost != y.cost) = false := by simpa using hcost
    have Hcost := Lib.hid hcost
    clear hcost
    by_cases hw : x.ws = y.ws
    ·have hd : decide (x.ws = y.ws) = true := decide_eq_true hw
     rw [hd] at HT
     have Hw := Lib.hid hw
     clear hw hd
     go_wp2_with fail
     go_quiet ((go_at_call 18; exact Calls.quiet_of (HT.out _)))
     go_wp2
     exact ⟨⟨k + 1, by omega, by go_num, same_step Hto.out (by rw [He.out.1, He.out.2]; unfold Spl.key; rw [Hw.out, Hcost.out]), _, by rw [Hq.out, World.drewN_drewN]⟩, by simp [intOf]; omega⟩
    ·have hd : decide (x.ws = y.ws) = false := decide_eq_false hw
     rw [hd] at HT
     have Hw := Lib.hid hw
     clear hw hd
     go_wp2_with fail
     go_quiet ((go_at_call 18; exact Calls.quiet_of (HT.out _)))
     go_wp2
     go_ret
     refine ⟨ret_no fun hab => Hw.out ?_, _, by rw [Hq.out, World.drewN_drewN]⟩
     have h1 := He.out.1
     rw [hab, He.out.2] at h1
     exact (Prod.mk.inj (Option.some.inj h1)).1.symm
   ·have d2 : (x.cost != y.cost) = true := by simpa using hcost
    have Hcost := Lib.hid hcost
    clear hcost
    go_wp2_with fail
    go_quiet (fail)
    go_wp2
    go_ret
    refine ⟨ret_no fun hab => Hcost.out ?_, _, by rw [Hq.out, World.drewN_drewN]⟩
    have h1 := He.out.1
    rw [hab, He.out.2] at h1
    exact (Prod.mk.inj (Option.some.inj h1)).2.symm
  ·go_wp2
   go_ret
   exact ⟨ret_yes (list_ext_to (by have := Hl.out; simpa using this) fun j hj => Hto.out j (by rw [List.length_map] at hj; omega)), _, Hq.out⟩
end Go.Proofs.YthachfkcgdfdfaaGreatDoor
/- Walks: layer 17's head: shorts, head. -/
namespace Go.Proofs.YthachfkcgdfdfaaGreatDoor
open Go.RowKit Go.Shelf Classical
attribute [local go_sem] undef_bool undef_bool'

set_option maxRecDepth 100000 in
theorem shorts_any (w : World) : Calls Tryz.prog 29 #[] w fun e w' =>
  e = .returned (.slice (some ⟨w.heap.size, 0, none⟩) 3 3) ∧ RowsAt w' w'.heap.size 4 (some ⟨w.heap.size, 0, none⟩) (exS.map Sht.cells) ∧ Below w.heap.size w w' := by
 have HR := Lib.hid (rows_blk (k := 4) (rows := exS.map Sht.cells) (Blk.new w (exS.map Sht.cells).flatten.toArray 54) (by intro r hr; obtain ⟨s, _, rfl⟩ := List.mem_map.1 hr; rfl))
 go_enter Tryz.func29, Tryz.ntmps29
 go_wp2
 go_ret
 exact ⟨rfl, HR.out, (Below.refl _ _).alloc (Nat.le_refl _) _⟩
theorem exS_fits : ∀ s ∈ exS, s.fits := fun s hs => by
 have h := (exS_proper.each s hs)
 refine ⟨?_, Nat.le_trans h.2.1.2.2 (by decide), Nat.le_trans h.2.2.1.2.2 (by decide)⟩
 simp only [exS, List.mem_cons, List.not_mem_nil, or_false] at hs
 rcases hs with rfl | rfl | rfl <;> decide
theorem blk_at {w : World} {n : Nat} (h : w.heap.size = n) (cs : Array Value) (t : TypeId) : Blk (w.alloc (.cells cs t)) n cs t := h ▸ Blk.new w cs t
theorem alloc7 {w W : World} {o : Nat} {c0 c1 c2 c3 c4 c5 c6 : Array Value} {t0 t1 t2 t3 t4 t5 t6 : TypeId} (ho : w.heap.size = o)
  (hW : W = ((((((w.alloc (.cells c0 t0)).alloc (.cells c1 t1)).alloc (.cells c2 t2)).alloc (.cells c3 t3)).alloc (.cells c4 t4)).alloc (.cells c5 t5)).alloc (.cells c6 t6)) :
  Blk W o c0 t0 ∧ Blk W (o + 1) c1 t1 ∧ Blk W (o + 2) c2 t2 ∧ Blk W (o + 3) c3 t3 ∧ Blk W (o + 4) c4 t4 ∧ Blk W (o + 5) c5 t5 ∧ Blk W (o + 6) c6 t6 ∧ Below w.heap.size w W := by
 subst hW
 refine ⟨((((((blk_at ho _ _).alloc _).alloc _).alloc _).alloc _).alloc _).alloc _, (((((blk_at (by simp [ho]) _ _).alloc _).alloc _).alloc _).alloc _).alloc _, ((((blk_at (by simp [ho]) _ _).alloc _).alloc _).alloc _).alloc _, (((blk_at (by simp [ho]) _ _).alloc _).alloc _).alloc _, ((blk_at (by simp [ho]) _ _).alloc _).alloc _, (blk_at (by simp [ho]) _ _).alloc _, blk_at (by simp [ho]) _ _, ?_⟩
 exact (((((((Below.refl _ _).alloc (Nat.le_refl _) _).alloc (by simp) _).alloc (by simp; omega) _).alloc (by simp; omega) _).alloc (by simp; omega) _).alloc (by simp; omega) _).alloc (by simp; omega) _
/-- The wanted spellings, in memory. -/
def exL (o : Nat) : List Spl := [⟨some ⟨o, 0, none⟩, 2, [stS, nS], 0⟩, ⟨some ⟨o + 1, 0, none⟩, 2, [streetS, nS], 1⟩, ⟨some ⟨o + 2, 0, none⟩, 2, [saintS, nS], 2⟩, ⟨some ⟨o + 3, 0, none⟩, 2, [stS, noS], 3⟩, ⟨some ⟨o + 4, 0, none⟩, 2, [streetS, noS], 4⟩, ⟨some ⟨o + 5, 0, none⟩, 2, [saintS, noS], 5⟩]
theorem two_words {ys : List ByteArray} {a b : List UInt8} (h : ys.map bl = [a, b]) : ys = [bs a, bs b] := by
 match ys, h with
 | [x, y], h =>
  simp only [List.map_cons, List.map_nil, List.cons.injEq, and_true] at h
  rw [bl_inj (h.1.trans (bl_bs a).symm), bl_inj (h.2.trans (bl_bs b).symm)]
theorem ex_valid1 (v : Value) (w : World) (h : BridAt w w.heap.size v exB) : Calls Tryz.prog 16 #[v, .agg #[.string ⟨#[101, 110]⟩, .int .i64 1, .string ⟨#[67, 65, 78, 32, 32, 78, 65]⟩]] w fun e w' => e = .returned (.bool false) ∧ Below w.heap.size w w' := by
 have := WValid_any exB v enS ⟨#[67, 65, 78, 32, 32, 78, 65]⟩ 1 (by decide) (by decide) w h
 rw [decide_eq_false (show ¬ NameOk exB enS 1 (bl ⟨#[67, 65, 78, 32, 32, 78, 65]⟩) from ex_name_two)] at this
 exact this
theorem ex_valid2 (v : Value) (w : World) (h : BridAt w w.heap.size v exB) : Calls Tryz.prog 16 #[v, .agg #[.string ⟨#[101, 110]⟩, .int .i64 0, .string ⟨#[110, 97]⟩]] w fun e w' => e = .returned (.bool true) ∧ Below w.heap.size w w' := by
 have := WValid_any exB v enS ⟨#[110, 97]⟩ 0 (by decide) (by decide) w h
 rw [decide_eq_true (show NameOk exB enS 0 (bl ⟨#[110, 97]⟩) from ex_name_base)] at this
 exact this
theorem ex_vtest (v : Value) (w : World) (h : BridAt w w.heap.size v exB) (i : Int) (t : ByteArray) (q : Bool) (hq : (i = 1 ∧ t = ⟨#[67, 65, 78, 32, 32, 78, 65]⟩ ∧ q = false) ∨ (i = 0 ∧ t = ⟨#[110, 97]⟩ ∧ q = true)) :
  Calls Tryz.prog 16 #[v, .agg #[.string ⟨#[101, 110]⟩, .int .i64 i, .string t]] w fun e w' => e = .returned (.bool q) ∧ Below w.heap.size w w' := by
 rcases hq with ⟨rfl, rfl, rfl⟩ | ⟨rfl, rfl, rfl⟩
 ·exact ex_valid1 v w h
 ·exact ex_valid2 v w h
theorem ex_proper (a : Option Addr) (w : World) (h : RowsAt w w.heap.size 4 a (exS.map Sht.cells)) : Calls Tryz.prog 21 #[.slice a 3 3] w fun e w' => e = .returned (.bool true) ∧ Below w.heap.size w w' := by
 have := Proper_any exS a 3 (by decide) exS_fits w h
 rw [decide_eq_true exS_proper] at this
 exact this
set_option maxRecDepth 100000 in
set_option maxHeartbeats 2000000 in
theorem head17_any (w : World) : Calls Tryz.prog 9 #[] w fun e w' => e = .returned (.bool true) ∧ Below w.heap.size w w' := by
 go_enter Tryz.func9, Tryz.ntmps9
 go_upto_region 2 with (fail)
 obtain ⟨W1, hW1⟩ : ∃ W1 : World, W1 = w.alloc (.cells #[.string ⟨#[101, 110]⟩, .int .i64 1, .string ⟨#[67, 65, 78, 32, 78, 65]⟩] 27) := ⟨_, rfl⟩
 rw [← hW1]
 have hb1 : Below w.heap.size w W1 := by rw [hW1]; exact (Below.refl _ _).alloc (Nat.le_refl _) _
 have hk1 : Blk W1 w.heap.size #[.string ⟨#[101, 110]⟩, .int .i64 1, .string ⟨#[67, 65, 78, 32, 78, 65]⟩] 27 := by rw [hW1]; exact Blk.new _ _ _
 clear hW1
 obtain ⟨b, hb⟩ : ∃ b, w.heap.size = b := ⟨_, rfl⟩
 rw [hb] at hk1 ⊢
 have H1 := Lib.hid (And.intro hb1 (And.intro hk1 hb))
 have x0 : W1.cell? ⟨b, 0, none⟩ = some (.string ⟨#[101, 110]⟩) := hk1.cell 0
 have x1 : W1.cell? ⟨b, 1, none⟩ = some (.int .i64 1) := hk1.cell 1
 have x2 : W1.cell? ⟨b, 2, none⟩ = some (.string ⟨#[67, 65, 78, 32, 78, 65]⟩) := hk1.cell 2
 clear hb1 hk1 hb
 go_cut [2, 3] (fun s e wx => s = .string ⟨#[99, 104, 97, 110, 32, 110, 97]⟩ ∧ e = .int .i64 0 ∧ Below W1.heap.size W1 wx)
 case first =>
  go_region_held3 (fun w' => w'.cell? ⟨b, 0, none⟩ = some (.string ⟨#[101, 110]⟩) ∧ w'.cell? ⟨b, 1, none⟩ = some (.int .i64 1) ∧ w'.cell? ⟨b, 2, none⟩ = some (.string ⟨#[67, 65, 78, 32, 78, 65]⟩))
   (first | exact ⟨x0, x1, x2⟩ | exact ⟨y0, y1, y2⟩ | exact ⟨z0, z1, z2⟩ | go_keep)
   (first | (go_at_call 28; refine (example_any _).mono ?_; rintro e wE ⟨v, rfl, hv, hbE⟩; have hbW : Below W1.heap.size W1 wE := (by first | exact hbE | exact ((Below.refl _ W1).drew).trans hbE); have hkE := H1.out.2.1.below hbW H1.out.2.1.lt; have y0 : wE.cell? ⟨b, 0, none⟩ = some (.string ⟨#[101, 110]⟩) := hkE.cell 0; have y1 : wE.cell? ⟨b, 1, none⟩ = some (.int .i64 1) := hkE.cell 1; have y2 : wE.cell? ⟨b, 2, none⟩ = some (.string ⟨#[67, 65, 78, 32, 78, 65]⟩) := hkE.cell 2; have HvE := Lib.hid (And.intro hv hbW); obtain ⟨a1, c1, a2, c2, rfl, -, -, -, -⟩ := hv; clear hbE hbW hkE) | (go_at_call 12; refine (Key_any exB _ enS ⟨#[67, 65, 78, 32, 78, 65]⟩ 1 (by decide) (by decide) wE HvE.out.1).mono ?_; rintro e wK ⟨s, err, rfl, hK, hbK⟩; obtain ⟨rfl, hs⟩ := ex_key hK; obtain rfl : s = ⟨#[99, 104, 97, 110, 32, 110, 97]⟩ := bl_inj hs; have hbF := HvE.out.2.trans (hbK.mono HvE.out.2.size); have hkK := H1.out.2.1.below hbF H1.out.2.1.lt; have z0 : wK.cell? ⟨b, 0, none⟩ = some (.string ⟨#[101, 110]⟩) := hkK.cell 0; have z1 : wK.cell? ⟨b, 1, none⟩ = some (.int .i64 1) := hkK.cell 1; have z2 : wK.cell? ⟨b, 2, none⟩ = some (.string ⟨#[67, 65, 78, 32, 78, 65]⟩) := hkK.cell 2; have HbF := Lib.hid hbF; clear hbF hkK hbK hK hs) | fail)
  all_goals (go_wp2_with fail; go_meet; exact ⟨rfl, rfl, HbF.out⟩)
 case rest =>
  obtain ⟨rfl, rfl, hb2⟩ := hcut
  have H2 := Lib.hid (And.intro (H1.out.1.trans (hb2.mono H1.out.1.size)) (H1.out.2.1.below hb2 H1.out.2.1.lt))
  clear hb2 x0 x1 x2
  go_wp2_with (go_at_call 29; refine (shorts_any wc).mono ?_; rintro e wS ⟨rfl, hR, hbS⟩)
  obtain ⟨W3, hW3⟩ : ∃ W3 : World, W3 = wS.alloc (.cells #[.string ⟨#[115, 116]⟩, .string ⟨#[110]⟩] 9) := ⟨_, rfl⟩
  rw [← hW3]
  have hb3 : Below wS.heap.size wS W3 := by rw [hW3]; exact (Below.refl _ _).alloc (Nat.le_refl _) _
  have hk3 : Blk W3 wS.heap.size #[.string ⟨#[115, 116]⟩, .string ⟨#[110]⟩] 9 := by rw [hW3]; exact Blk.new _ _ _
  have hbc3 : Below wc.heap.size wc W3 := hbS.trans (hb3.mono hbS.size)
  clear hW3
  refine (Spell_any exS [stS, nS] _ _ 3 2 (by decide) exS_fits (by decide) W3 ((hR.below hb3 (Nat.le_refl _)).more hb3.size) (row_blk (xs := strs [stS, nS]) hk3)).mono ?_
  rintro e w4 ⟨ov, L, err, rfl, hsp, hoL, hwL, hb4⟩
  obtain ⟨hkeys, rfl⟩ := ex_spell hsp
  obtain ⟨la, lc, rfl, -, hra⟩ := RowAt.of_own hoL
  have hbc4 := hbc3.trans (hb4.mono hbc3.size)
  have hSL : SplsAt w4 w4.heap.size la L := ⟨hra, fun x hx => ⟨(hwL x hx).1, by
   obtain ⟨a, c, e1, -, e2⟩ := RowAt.of_own (hwL x hx).2
   cases e1
   exact e2⟩⟩
  have hL6 : L.length = 6 := by have := congrArg List.length hkeys; rw [List.length_map] at this; exact this
  have H4 := Lib.hid (And.intro hSL (And.intro hkeys (And.intro hbc4 hL6)))
  clear hSL hkeys hbc4 hL6 hra hoL hwL hsp hb4 hbc3 hk3 hb3 hR hbS
  go_upto_region 5 with (fail)
  obtain ⟨W5, hW5⟩ : ∃ W5 : World, W5 = ((((((w4.alloc (.cells #[.string ⟨#[115, 116]⟩, .string ⟨#[110]⟩] 9)).alloc (.cells #[.string ⟨#[115, 116, 114, 101, 101, 116]⟩, .string ⟨#[110]⟩] 9)).alloc (.cells #[.string ⟨#[115, 97, 105, 110, 116]⟩, .string ⟨#[110]⟩] 9)).alloc (.cells #[.string ⟨#[115, 116]⟩, .string ⟨#[110, 111]⟩] 9)).alloc (.cells #[.string ⟨#[115, 116, 114, 101, 101, 116]⟩, .string ⟨#[110, 111]⟩] 9)).alloc (.cells #[.string ⟨#[115, 97, 105, 110, 116]⟩, .string ⟨#[110, 111]⟩] 9)).alloc
   (.cells #[.slice (some ⟨w4.heap.size, 0, none⟩) 2 2, .int .i64 0, .slice (some ⟨w4.heap.size + 1, 0, none⟩) 2 2, .int .i64 1, .slice (some ⟨w4.heap.size + 1 + 1, 0, none⟩) 2 2, .int .i64 2, .slice (some ⟨w4.heap.size + 1 + 1 + 1, 0, none⟩) 2 2, .int .i64 3, .slice (some ⟨w4.heap.size + 1 + 1 + 1 + 1, 0, none⟩) 2 2, .int .i64 4, .slice (some ⟨w4.heap.size + 1 + 1 + 1 + 1 + 1, 0, none⟩) 2 2, .int .i64 5] 52) := ⟨_, rfl⟩
  rw [← hW5]
  obtain ⟨q0, q1, q2, q3, q4, q5, q6, hb5⟩ := alloc7 rfl hW5
  clear hW5
  obtain ⟨o, ho⟩ : ∃ o, w4.heap.size = o := ⟨_, rfl⟩
  rw [ho] at q0 q1 q2 q3 q4 q5 q6 hb5 ⊢
  have hM : SplsAt W5 W5.heap.size (some ⟨o + 6, 0, none⟩) (exL o) := ⟨row_blk (xs := (exL o).flatMap Spl.cells) q6, fun x hx => by
   simp only [exL, List.mem_cons, List.not_mem_nil, or_false] at hx
   rcases hx with rfl | rfl | rfl | rfl | rfl | rfl
   ·exact ⟨by show 2 ≤ maxLen; decide, row_blk (xs := strs [stS, nS]) q0⟩
   ·exact ⟨by show 2 ≤ maxLen; decide, row_blk (xs := strs [streetS, nS]) q1⟩
   ·exact ⟨by show 2 ≤ maxLen; decide, row_blk (xs := strs [saintS, nS]) q2⟩
   ·exact ⟨by show 2 ≤ maxLen; decide, row_blk (xs := strs [stS, noS]) q3⟩
   ·exact ⟨by show 2 ≤ maxLen; decide, row_blk (xs := strs [streetS, noS]) q4⟩
   ·exact ⟨by show 2 ≤ maxLen; decide, row_blk (xs := strs [saintS, noS]) q5⟩⟩
  have hL5 : SplsAt W5 W5.heap.size la L := by
   exact (H4.out.1.below (by rw [ho]; exact hb5) (Nat.le_refl _)).more hb5.size
  have hsame : decide (L.map Spl.key = (exL o).map Spl.key) = true := decide_eq_true H4.out.2.1
  have HS := Lib.hid (Same_any L (exL o) la (some ⟨o + 6, 0, none⟩) lc 6 (by rw [H4.out.2.2.2]; decide) (by show 6 ≤ maxLen; decide) W5 hL5 hM)
  rw [hsame] at HS
  have H5 := Lib.hid (And.intro (H2.out.1.trans ((H4.out.2.2.1.trans (by rw [← ho] at hb5; exact hb5.mono H4.out.2.2.1.size)).mono H2.out.1.size)) (H2.out.2.below (H4.out.2.2.1.trans (by rw [← ho] at hb5; exact hb5.mono H4.out.2.2.1.size)) H2.out.2.lt))
  clear hM hL5 hsame q0 q1 q2 q3 q4 q5 q6 hb5 ho
  go_wp2_with (go_at_call 23; refine HS.out.mono ?_; rintro e w6 ⟨rfl, q, hw6⟩; have Hw6 := Lib.hid hw6; clear hw6)
  have H6 := Lib.hid (show Below w.heap.size w w6 ∧ Blk w6 b #[.string ⟨#[101, 110]⟩, .int .i64 1, .string ⟨#[67, 65, 78, 32, 78, 65]⟩] 27 from by rw [Hw6.out]; exact ⟨Go.below_drewN H5.out.1 _, H5.out.2⟩)
  clear H5 Hw6 HS
  refine (Split_any ⟨#[32, 97, 32, 32, 98, 32]⟩ (by decide) w6).mono ?_
  rintro e w7 ⟨v, ys, rfl, hys, hoy, hb7⟩
  obtain rfl := two_words (a := [97]) (b := [98]) hys
  obtain ⟨ya, yc, rfl, -, hry⟩ := RowAt.of_own hoy
  have H7 := Lib.hid (And.intro (H6.out.1.trans (hb7.mono H6.out.1.size)) (And.intro (H6.out.2.below hb7 H6.out.2.lt) hry))
  clear H6 hys hoy hb7 hry
  go_wp2_with fail
  obtain ⟨W8, hW8⟩ : ∃ W8 : World, W8 = w7.alloc (.cells #[.string ⟨#[97]⟩, .string ⟨#[98]⟩] 9) := ⟨_, rfl⟩
  rw [← hW8]
  have hb8 : Below w7.heap.size w7 W8 := by rw [hW8]; exact (Below.refl _ _).alloc (Nat.le_refl _) _
  have hk8 : Blk W8 w7.heap.size #[.string ⟨#[97]⟩, .string ⟨#[98]⟩] 9 := by rw [hW8]; exact Blk.new _ _ _
  clear hW8
  refine (Texts17_q [bs [97], bs [98]] [bs [97], bs [98]] ya (some ⟨w7.heap.size, 0, none⟩) yc 2 W8.heap.size (by show 2 ≤ maxLen; decide) W8 ((H7.out.2.2.below hb8 (Nat.le_refl _)).more hb8.size) (row_blk (xs := strs [bs [97], bs [98]]) hk8)).mono ?_
  rintro e w9 ⟨rfl, q2, hw9⟩
  rw [decide_eq_true (rfl : [bs [97], bs [98]] = [bs [97], bs [98]])]
  have H9 := Lib.hid (show Below w.heap.size w w9 ∧ Blk w9 b #[.string ⟨#[101, 110]⟩, .int .i64 1, .string ⟨#[67, 65, 78, 32, 78, 65]⟩] 27 from by
   have hb8k := H7.out.2.1.below hb8 H7.out.2.1.lt
   rw [hw9]
   exact ⟨Go.below_drewN (H7.out.1.trans (hb8.mono H7.out.1.size)) _, hb8k⟩)
  clear hw9 H7 hb8 hk8 H4 H2
  have y2 : w9.cell? ⟨b, 2, none⟩ = some (.string ⟨#[67, 65, 78, 32, 78, 65]⟩) := H9.out.2.cell 2
  have yf : w9.frozen? ⟨b, 2, none⟩ = false := H9.out.2.frozen 2
  go_upto_region 7 with (fail)
  obtain ⟨WA, hWA⟩ : ∃ WA : World, WA = w9.setCell ⟨b, 2, none⟩ (.string ⟨#[67, 65, 78, 32, 32, 78, 65]⟩) := ⟨_, rfl⟩
  rw [← hWA]
  have hbA : Below w.heap.size w WA := by rw [hWA]; exact H9.out.1.setCell (by show w.heap.size ≤ b; rw [H1.out.2.2]; exact Nat.le_refl _) _
  have hkA : Blk WA b #[.string ⟨#[101, 110]⟩, .int .i64 1, .string ⟨#[67, 65, 78, 32, 32, 78, 65]⟩] 27 := by rw [hWA]; exact H9.out.2.set_ 2 _
  clear y2 yf hWA
  have x0 : WA.cell? ⟨b, 0, none⟩ = some (.string ⟨#[101, 110]⟩) := hkA.cell 0
  have x1 : WA.cell? ⟨b, 1, none⟩ = some (.int .i64 1) := hkA.cell 1
  have x2 : WA.cell? ⟨b, 2, none⟩ = some (.string ⟨#[67, 65, 78, 32, 32, 78, 65]⟩) := hkA.cell 2
  have HA := Lib.hid (And.intro hbA hkA)
  have HB := Lib.hid (Below.refl WA.heap.size WA)
  clear hbA hkA H9
  go_region_held3 (fun w' => w'.cell? ⟨b, 0, none⟩ = some (.string ⟨#[101, 110]⟩) ∧ w'.cell? ⟨b, 1, none⟩ = some (.int .i64 1) ∧ w'.cell? ⟨b, 2, none⟩ = some (.string ⟨#[67, 65, 78, 32, 32, 78, 65]⟩))
   (first | exact ⟨y0, y1, y2⟩ | exact ⟨x0, x1, x2⟩ | go_keep)
   (first | (go_at_call 28; refine (example_any _).mono ?_; rintro e wE ⟨v, rfl, hv, hbE⟩; have hbW : Below WA.heap.size WA wE := (by first | exact HB.out.trans (hbE.mono HB.out.size) | exact HB.out.drew.trans (hbE.mono HB.out.drew.size)); have hkE := HA.out.2.below hbW HA.out.2.lt; have y0 : wE.cell? ⟨b, 0, none⟩ = some (.string ⟨#[101, 110]⟩) := hkE.cell 0; have y1 : wE.cell? ⟨b, 1, none⟩ = some (.int .i64 1) := hkE.cell 1; have y2 : wE.cell? ⟨b, 2, none⟩ = some (.string ⟨#[67, 65, 78, 32, 32, 78, 65]⟩) := hkE.cell 2; have HB := Lib.hid hbW; clear hbW hkE; have HvE := Lib.hid hv; obtain ⟨a1, c1, a2, c2, rfl, -, -, -, -⟩ := hv; clear hbE) | (go_at_call 16; refine (ex_vtest _ wE HvE.out _ _ _ (by first | exact .inl ⟨rfl, rfl, rfl⟩ | exact .inr ⟨rfl, rfl, rfl⟩)).mono ?_; rintro e wV ⟨rfl, hbE⟩; have hbW : Below WA.heap.size WA wV := (by first | exact HB.out.trans (hbE.mono HB.out.size) | exact HB.out.drew.trans (hbE.mono HB.out.drew.size)); have hkE := HA.out.2.below hbW HA.out.2.lt; have y0 : wV.cell? ⟨b, 0, none⟩ = some (.string ⟨#[101, 110]⟩) := hkE.cell 0; have y1 : wV.cell? ⟨b, 1, none⟩ = some (.int .i64 1) := hkE.cell 1; have y2 : wV.cell? ⟨b, 2, none⟩ = some (.string ⟨#[67, 65, 78, 32, 32, 78, 65]⟩) := hkE.cell 2; have HB := Lib.hid hbW; clear hbW hkE; clear hbE) | (go_at_call 29; refine (shorts_any _).mono ?_; rintro e wS ⟨rfl, hR, hbE⟩; have hbW : Below WA.heap.size WA wS := (by first | exact HB.out.trans (hbE.mono HB.out.size) | exact HB.out.drew.trans (hbE.mono HB.out.drew.size)); have hkE := HA.out.2.below hbW HA.out.2.lt; have y0 : wS.cell? ⟨b, 0, none⟩ = some (.string ⟨#[101, 110]⟩) := hkE.cell 0; have y1 : wS.cell? ⟨b, 1, none⟩ = some (.int .i64 1) := hkE.cell 1; have y2 : wS.cell? ⟨b, 2, none⟩ = some (.string ⟨#[67, 65, 78, 32, 32, 78, 65]⟩) := hkE.cell 2; have HB := Lib.hid hbW; clear hbW hkE; have HR := Lib.hid hR; clear hbE hR) | (go_at_call 21; refine (ex_proper _ wS HR.out).mono ?_; rintro e wP ⟨rfl, hbE⟩; have hbW : Below WA.heap.size WA wP := (by first | exact HB.out.trans (hbE.mono HB.out.size) | exact HB.out.drew.trans (hbE.mono HB.out.drew.size)); have hkE := HA.out.2.below hbW HA.out.2.lt; have y0 : wP.cell? ⟨b, 0, none⟩ = some (.string ⟨#[101, 110]⟩) := hkE.cell 0; have y1 : wP.cell? ⟨b, 1, none⟩ = some (.int .i64 1) := hkE.cell 1; have y2 : wP.cell? ⟨b, 2, none⟩ = some (.string ⟨#[67, 65, 78, 32, 32, 78, 65]⟩) := hkE.cell 2; have HB := Lib.hid hbW; clear hbW hkE; clear hbE) | fail)
  all_goals (go_wp2_with fail; go_ret; exact ⟨rfl, HA.out.1.trans (HB.out.mono HA.out.1.size)⟩)
end Go.Proofs.YthachfkcgdfdfaaGreatDoor
