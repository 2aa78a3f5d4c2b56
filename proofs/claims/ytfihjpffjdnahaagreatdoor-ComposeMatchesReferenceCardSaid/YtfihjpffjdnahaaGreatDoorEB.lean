/- Walk: the end of gazetteerref14.Compose, behind the search for pairs (printed by mkc.py). -/
import Derived.Test.YtfihjpffjdnahaaGreatDoorEN
import Derived.Test.YtfihjpffjdnahaaGreatDoorEA
import Derived.Test.YtfihjpffjdnahaaGreatDoorET
import Derived.Deep.AppendLies
namespace Go.Proofs.YtfihjpffjdnahaaGreatDoor
open Go.RowKit Classical
open Go.Shelf
attribute [local go_sem] undef_bool undef_bool'

def RCompPost (M N : Mach) (w : World) (e : Ending) (w' : World) : Prop :=
 ∃ v C err, e = .returned (.tuple #[v, .int .i64 err]) ∧ MachAt w' w'.heap.size v C ∧ Below w.heap.size w w' ∧ CompOut M N C err
theorem BSt.drew {w0 : World} {B : Nat} {pv av : Value} {ord : List (Int × Int)} {arcs : List Arc} {w : World} (h : BSt w0 B pv av ord arcs w) : BSt w0 B pv av ord arcs w.drew := ⟨h.1, own_drew h.2.1, own_drew h.2.2.1, h.2.2.2.drew⟩
theorem BSt.below {w0 w' : World} {B : Nat} {pv av : Value} {ord : List (Int × Int)} {arcs : List Arc} {w : World} (h : BSt w0 B pv av ord arcs w) (hb : Below w.heap.size w w') : BSt w0 B pv av ord arcs w' :=
 ⟨h.1.below hb h.1.lt, own_below h.2.1 hb, own_below h.2.2.1 hb, h.2.2.2.trans (hb.mono (by have := h.1.lt; omega))⟩
theorem Blk.drew' {w : World} {b : Nat} {cs : Array Value} {t : TypeId} (h : Blk w b cs t) : Blk w.drew b cs t := h
theorem MX.arcs {w : World} {b : Nat} {fa aa : Option Addr} {fc ac : Nat} {M : Mach} (h : MX w b fa fc aa ac M) : RowAt w w.heap.size aa (flat M.arcs) := by
 obtain ⟨_, _, _, _, _, e, _, _, _, h4⟩ := h
 simp only [Value.agg.injEq, Array.mk.injEq, List.cons.injEq, Value.slice.injEq] at e
 rw [e.2.2.2.1.1]
 exact h4

/-- wpAnyH_take, its side conditions by themselves. -/
theorem tk {P : Program} {ops : Array Oper} {Q : Exit → Act → World → Prop} {md : Region.Mode} {S : World → Prop} (i : Nat) {oi : Oper} {v : Value} {fuel : Nat} {listed : Array Bool} {a : Act} {w : World} (hi : ops[i]? = some oi)
  (hy : YieldsIf P ops S oi v a) (h : wpAnyH P md ops Q S fuel (listed.setIfInBounds i true) (a.put oi.dst v) w) (hs : Region.noSelect ops = true := by as_aux_lemma => kernel_rfl) (hf : Region.free md ops listed i = true := by as_aux_lemma => kernel_rfl)
  (hr : (Region.ready md ops listed).contains i = true := by as_aux_lemma => kernel_rfl) (hQ : ∀ c a w, Q (.panic c) (a.put oi.dst v) w → Q (.panic c) a w := by exact fun _ _ _ h => h) (hS : S w := by assumption) : wpAnyH P md ops Q S (fuel + 1) listed a w :=
 wpAnyH_take hi hs hf hr hQ hy hS h
theorem PInv.few {M N : Mach} {st : PSt} {i : Nat} (h : PInv M N st i) (fM : FewM M) (fN : FewM N) (hM : ValidM M) (hN : ValidM N) : st.ord.length ≤ 64 ∧ st.arcs.length ≤ 14336 := by
 have h1 := pairs_few (a := 8) (b := 8) (fM.states hM) (fN.states hN) h.nodup h.pair
 have h2 := h.len
 have h3 := h.il
 have h4 : bigK M N ≤ 224 := by
  have := fM.2.1
  have := fN.2.1
  have h5 : M.arcs.length * (N.arcs.length + 1) ≤ 14 * 15 := Nat.mul_le_mul (by omega) (by omega)
  unfold bigK
  omega
 have h6 : i * bigK M N ≤ 64 * 224 := Nat.mul_le_mul (by omega) h4
 omega

def regOf : Code → Option (Nat × Array Oper × Bool)
 | .region id ops b => some (id, ops, b)
 | _ => none
/-- The region of a number, and what follows it. -/
def tailIn (n : Nat) : Code → Option (Array Oper × Bool × Code)
 | .seq a r => match regOf a with
  | some (id, ops, b) => if id = n then some (ops, b, r) else tailIn n r
  | none => match tailIn n a with
   | some x => some x
   | none => tailIn n r
 | .block _ c => tailIn n c
 | .loop c => tailIn n c
 | .scope c => tailIn n c
 | _ => none
set_option maxRecDepth 100000 in
set_option maxHeartbeats 16000000 in
theorem end14 (M N : Mach) (fM : FewM M) (fN : FewM N) (hM : ValidM M) (hN : ValidM N) (fm am fn an : Option Addr) (gm bm gn bn : Nat) (w w2 wo : World) (B i : Nat) (st : PSt) (pv av : Value)
  (FS0 : ∀ wx, Below B w2 wx → ((MX wx (w.heap.size + 1) fn gn an bn N ∧ MX wx w.heap.size fm gm am bm M ∧ Below w.heap.size w wx) ∧ Blk wx (w.heap.size + 2) #[.int .i64 0, .int .i64 0, .slice none 0 0, .slice none 0 0] 25))
  (hRB : w.heap.size + 2 < B) (hp : PInv M N st i) (hst : BSt w2 B pv av st.ord st.arcs wo) (hil : st.ord.length ≤ i) (u8 u9 u10 u11 u12 u13 u14 u15 u16 u17 u18 u19 u20 u21 u22 u23 u24 u25 u26 u27 u28 u29 u30 u31 u32 u33 u34 u35 u36 u37 u38 u39 u40 u41 u42 u43 u44 u45 u46 u47 u48 u49 u50 u51 u52 u53 u54 u55 u56 u57 u58 u59 u60 u61 u62 u63 u64 u65 u66 u67 u68 u69 u70 u71 u72 u73 u74 u75 u76 u77 u78 u79 u80 u81 u82 u83 u84 u85 u86 u87 u88 u89 u90 u91 u92 u93 u94 u95 u96 u97 u98 u99 u100 u101 u102 u103 u104 u105 u106 u107 u108 u109 u110 u111 u112 u113 u114 u115 u116 u117 u118 u119 u120 u121 u122 u123 u124 u125 u126 u127 u128 u129 u130 u131 u132 u133 u134 u135 u136 u137 u138 u139 u140 u141 u142 u143 u144 u145 u146 u147 u148 u149 u150 u151 u152 u153 u154 u155 u156 u157 u158 u159 u160 u161 u162 u163 u164 u165 u166 u167 u168 u169 u170 u171 u172 u173 u174 u175 u176 u177 u178 u179 u180 u181 u182 u183 u184 u185 u186 u187 u188 u189 u190 u191 u192 u193 u194 u195 u196 u197 u198 u199 u200 u201 u202 u203 u204 u205 u206 u207 u208 u209 u210 u211 u212 u213 u214 u215 u216 u217 u218 u219 u220 u221 u222 u223 u224 u225 u226 u227 u228 u229 u230 u231 u232 u233 u234 u235 u236 u237 u238 u239 u240 u241 u242 u243 u244 u245 : Value) (K : Act → World → Prop) (ops : Array Oper) (bb : Bool) (Bc : Code)
  (ht : tailIn 29 (Tryz.f8.body.getD .skip) = some (ops, bb, Bc)) (hK : ∀ a w1, Code.wp Tryz.prog Bc (bodyPost Tryz.prog Tryz.f8 (RCompPost M N w)) a w1 → K a w1) :
  Code.wp Tryz.prog (.region 29 ops bb) (Exit.then K (bodyPost Tryz.prog Tryz.f8 (RCompPost M N w))) { tmps := List.toArray (α := Value) (.agg #[.int .i64 M.states, .int .i64 M.start, .slice fm M.final.length gm, .slice am M.arcs.length bm] :: .agg #[.int .i64 N.states, .int .i64 N.start, .slice fn N.final.length gn, .slice an N.arcs.length bn] :: .pointer (some ⟨w.heap.size, 0, none⟩) :: .pointer (some ⟨w.heap.size + 1, 0, none⟩) :: .pointer (some ⟨w.heap.size + 1 + 1, 0, none⟩) :: .int .i64 0 :: .pointer (some ⟨B, 0, none⟩) :: .int .i64 i :: u8 :: u9 :: u10 :: u11 :: u12 :: u13 :: u14 :: u15 :: u16 :: u17 :: u18 :: u19 :: u20 :: u21 :: u22 :: u23 :: u24 :: u25 :: u26 :: u27 :: u28 :: u29 :: u30 :: u31 :: u32 :: u33 :: u34 :: u35 :: u36 :: u37 :: u38 :: u39 :: u40 :: u41 :: u42 :: u43 :: u44 :: u45 :: u46 :: u47 :: u48 :: u49 :: u50 :: u51 :: u52 :: u53 :: u54 :: u55 :: u56 :: u57 :: u58 :: u59 :: u60 :: u61 :: u62 :: u63 :: u64 :: u65 :: u66 :: u67 :: u68 :: u69 :: u70 :: u71 :: u72 :: u73 :: u74 :: u75 :: u76 :: u77 :: u78 :: u79 :: u80 :: u81 :: u82 :: u83 :: u84 :: u85 :: u86 :: u87 :: u88 :: u89 :: u90 :: u91 :: u92 :: u93 :: u94 :: u95 :: u96 :: u97 :: u98 :: u99 :: u100 :: u101 :: u102 :: u103 :: u104 :: u105 :: u106 :: u107 :: u108 :: u109 :: u110 :: u111 :: u112 :: u113 :: u114 :: u115 :: u116 :: u117 :: u118 :: u119 :: u120 :: u121 :: u122 :: u123 :: u124 :: u125 :: u126 :: u127 :: u128 :: u129 :: u130 :: u131 :: u132 :: u133 :: u134 :: u135 :: u136 :: u137 :: u138 :: u139 :: u140 :: u141 :: u142 :: u143 :: u144 :: u145 :: u146 :: u147 :: u148 :: u149 :: u150 :: u151 :: u152 :: u153 :: u154 :: u155 :: u156 :: u157 :: u158 :: u159 :: u160 :: u161 :: u162 :: u163 :: u164 :: u165 :: u166 :: u167 :: u168 :: u169 :: u170 :: u171 :: u172 :: u173 :: u174 :: u175 :: u176 :: u177 :: u178 :: u179 :: u180 :: u181 :: u182 :: u183 :: u184 :: u185 :: u186 :: u187 :: u188 :: u189 :: u190 :: u191 :: u192 :: u193 :: u194 :: u195 :: u196 :: u197 :: u198 :: u199 :: u200 :: u201 :: u202 :: u203 :: u204 :: u205 :: u206 :: u207 :: u208 :: u209 :: u210 :: u211 :: u212 :: u213 :: u214 :: u215 :: u216 :: u217 :: u218 :: u219 :: u220 :: u221 :: u222 :: u223 :: u224 :: u225 :: u226 :: u227 :: u228 :: u229 :: u230 :: u231 :: u232 :: u233 :: u234 :: u235 :: u236 :: u237 :: u238 :: u239 :: u240 :: u241 :: u242 :: u243 :: u244 :: u245 :: []), defers := [] } wo := by
 have e1 := ht.symm.trans (rfl : tailIn 29 (Tryz.f8.body.getD .skip) = some (_, _, _))
 injection e1 with e1
 injection e1 with e1 e2
 injection e2 with e2 e3
 clear ht
 subst e1 e2 e3
 have HFew := Lib.hid (And.intro fM fN)
 have HV := Lib.hid (And.intro hM hN)
 have FS := Lib.hid FS0
 have hd : st.ord.length ≤ i ∨ i = 4000 := .inl hil
 have hi4 := hp.i4
 obtain ⟨pa, pc, rfl, -, hrow⟩ := RowAt.of_own hst.2.1
 have c0 : wo.cell? ⟨B, 0, none⟩ = some (.slice pa st.ord.length pc) := hst.1.cell 0
 have HP := Lib.hid (And.intro hp hst)
 have HR := Lib.hid hrow
 clear fM fN hM hN FS0 hp hst hrow
 obtain ⟨hsm1, hsm2⟩ := HP.out.1.few HFew.out.1 HFew.out.2 HV.out.1 HV.out.2
 have hpi := HP.out.1
 have hst := HP.out.2
 clear HP HR c0
 obtain ⟨va, vc, rfl, -, harow⟩ := RowAt.of_own hst.2.2.1
 obtain ⟨n0, hn0⟩ : ∃ n0, wo.heap.size = n0 := ⟨_, rfl⟩
 have hal := hpi.arcs_le HV.out.1 HV.out.2
 have hBn : B < n0 := by rw [← hn0]; exact hst.1.lt
 have b0 : wo.cell? ⟨B, 0, none⟩ = some (.slice pa st.ord.length pc) := hst.1.cell 0
 have b1 : wo.cell? ⟨B, 1, none⟩ = some (.slice va st.arcs.length vc) := hst.1.cell 1
 have HQ := Lib.hid (fun (wx : World) (hb : Below wo.heap.size wo wx) => Sorted12_any st.arcs va vc (by omega) wx ((harow.below hb (Nat.le_refl _)).more hb.size))
 have HE := Lib.hid (And.intro hpi (And.intro hst (And.intro hn0 hd)))
 have hk0 := hst.1
 clear hpi hst hn0 harow hd
 go_cut [16] (fun v wx => ∃ bO S aS cS, v = .pointer (some ⟨bO, 0, none⟩) ∧ ArcsOf st.arcs S ∧ n0 ≤ bO ∧ OutAt wx n0 bO (st.ord.length : Int) 0 [] S (.slice none 0 0) (.slice aS S.length cS) ∧ Below n0 wo wx)
 case first =>
  refine wp_region_held_drew (S := fun w' : World => w'.cell? ⟨B, 0, none⟩ = some (.slice pa st.ord.length pc) ∧ w'.cell? ⟨B, 1, none⟩ = some (.slice va st.arcs.length vc)) (by kernel_rfl) ⟨b0, b1⟩ (fun hHeld => ?_)
  refine tk (v := ?_) 0 rfl (Or.inl ⟨by rfl, ?_⟩) ?_
  rotate_left
  ·intro w' hSw; (try dsimp only at hSw); first | (go_simp; done) | (go_simp; with_reducible rfl)
  try simp only [Act.put, List.setIfInBounds_toArray]
  refine tk (v := ?_) 1 rfl (Or.inl ⟨by rfl, ?_⟩) ?_
  rotate_left
  ·intro w' hSw; (try dsimp only at hSw); first | (go_simp; done) | (go_simp; with_reducible rfl)
  try simp only [Act.put]
  refine tk (v := ?_) 2 rfl (Or.inl ⟨by rfl, ?_⟩) ?_
  rotate_left
  ·intro w' hSw; (try dsimp only at hSw); first | (go_simp; done) | (go_simp; with_reducible rfl)
  try simp only [Act.put]
  refine tk (v := ?_) 3 rfl (Or.inl ⟨by rfl, ?_⟩) ?_
  rotate_left
  ·intro w' hSw; (try dsimp only at hSw); first | (go_simp; done) | (go_simp; with_reducible rfl)
  try simp only [Act.put]
  refine tk (v := ?_) 4 rfl (Or.inl ⟨by rfl, ?_⟩) ?_
  rotate_left
  ·intro w' hSw; (try dsimp only at hSw); first | (go_simp; done) | (go_simp; with_reducible rfl)
  try simp only [Act.put]
  refine tk (v := ?_) 5 rfl (Or.inl ⟨by rfl, ?_⟩) ?_
  rotate_left
  ·intro w' hSw; (try dsimp only at hSw); first | (go_simp; done) | (go_simp; with_reducible rfl)
  try simp only [Act.put]
  refine tk (v := ?_) 6 rfl (Or.inl ⟨by rfl, ?_⟩) ?_
  rotate_left
  ·intro w' hSw; (try dsimp only at hSw); first | (go_simp; done) | (go_simp; with_reducible rfl)
  try simp only [Act.put]
  refine tk (v := ?_) 7 rfl (Or.inl ⟨by rfl, ?_⟩) ?_
  rotate_left
  ·intro w' hSw; (try dsimp only at hSw); first | (go_simp; done) | (go_simp; with_reducible rfl)
  try simp only [Act.put]
  refine tk (v := ?_) 8 rfl (Or.inl ⟨by rfl, ?_⟩) ?_
  rotate_left
  ·intro w' hSw; (try dsimp only at hSw); first | (go_simp; done) | (go_simp; with_reducible rfl)
  try simp only [Act.put]
  refine wpAnyH_ready (rs := [9, 11]) (by as_aux_lemma => kernel_rfl) (by simp) ?_
  refine AllReadyH.cons rfl (fun K hK => ?_) (AllReadyH.cons rfl (fun K hK => ?_) AllReadyH.nil)
  ·skip
   go_simp
   go_at_call 28
   refine (HQ.out _ ((Below.refl _ _).drew)).mono ?_
   rintro e W1 ⟨v5, S, rfl, hinc, hmem, hown5, hb5⟩
   obtain ⟨aS, cS, rfl, -, -⟩ := RowAt.of_own hown5
   have k1 := (Blk.drew' hk0).below hb5 (Blk.drew' hk0).lt
   refine hK.out _ _ (⟨k1.cell 0, k1.cell 1⟩) (fun _ => ?_)
   clear hK K
   try simp only [Act.put, List.setIfInBounds_toArray, List.set_cons_zero, List.set_cons_succ]
   refine tk (v := ?_) 10 rfl (Or.inl ⟨by rfl, ?_⟩) ?_
   rotate_left
   ·intro w' hSw; (try dsimp only at hSw); first | (go_simp; done) | (go_simp; with_reducible rfl)
   try simp only [Act.put, List.setIfInBounds_toArray]
   refine wpAnyH_ready (rs := [11]) (by as_aux_lemma => kernel_rfl) (by simp) ?_
   refine AllReadyH.cons rfl (fun K hK => ?_) AllReadyH.nil
   go_simp
   refine hK.out _ _ (⟨(k1.alloc _).cell 0, (k1.alloc _).cell 1⟩) (fun _ => ?_)
   clear hK K
   try simp only [Act.put, List.setIfInBounds_toArray, List.set_cons_zero, List.set_cons_succ]
   refine wpAnyH_ready (rs := [12]) (by as_aux_lemma => kernel_rfl) (by simp) ?_
   refine AllReadyH.cons rfl (fun K hK => ?_) AllReadyH.nil
   have hs5 : wo.heap.size ≤ W1.heap.size := hb5.size
   have hn : n0 ≤ wo.heap.size := Nat.le_of_eq HE.out.2.2.1.symm
   have hX : Below n0 wo W1 := (Below.refl n0 wo).drew.trans (hb5.mono hn)
   have hY : OutAt (W1.alloc (.cells #[.int .i64 (st.ord.length : Int), .int .i64 0, .slice none 0 0, .slice aS S.length cS] 25)) n0 W1.heap.size (st.ord.length : Int) 0 [] S (.slice none 0 0) (.slice aS S.length cS) :=
    ⟨Blk.new _ _ _, World.ownsRow_nil _ _ _ _, own_base (own_below hown5 ((Below.refl _ _).alloc (Nat.le_refl _) _)) hn⟩
   have HF := Lib.hid (And.intro (And.intro hinc hmem) (And.intro hY (hX.alloc (by omega) (.cells #[.int .i64 (st.ord.length : Int), .int .i64 0, .slice none 0 0, .slice aS S.length cS] 25))))
   have hnW : n0 ≤ W1.heap.size := by omega
   clear hX hY hown5 hb5 hinc hmem
   go_simp
   refine hK.out _ _ (⟨(k1.alloc _).cell 0, (k1.alloc _).cell 1⟩) (fun _ => ?_)
   clear hK K
   try simp only [Act.put, List.setIfInBounds_toArray, List.set_cons_zero, List.set_cons_succ]
   refine wpAnyH_done (by as_aux_lemma => kernel_rfl) ?_ _
   go_wp2_with fail
   go_meet
   exact ⟨_, S, aS, cS, rfl, HF.out.1, hnW, HF.out.2.1, HF.out.2.2⟩
  ·skip
   go_simp
   refine hK.out _ _ (⟨((Blk.drew' hk0).alloc _).cell 0, ((Blk.drew' hk0).alloc _).cell 1⟩) (fun _ => ?_)
   clear hK K
   try simp only [Act.put, List.setIfInBounds_toArray, List.set_cons_zero, List.set_cons_succ]
   refine wpAnyH_ready (rs := [9]) (by as_aux_lemma => kernel_rfl) (by simp) ?_
   refine AllReadyH.cons rfl (fun K hK => ?_) AllReadyH.nil
   go_simp
   go_at_call 28
   refine (HQ.out _ (((Below.refl _ _).drew.alloc (Nat.le_refl _) _))).mono ?_
   rintro e W1 ⟨v5, S, rfl, hinc, hmem, hown5, hb5⟩
   obtain ⟨aS, cS, rfl, -, -⟩ := RowAt.of_own hown5
   have k1 := ((Blk.drew' hk0).alloc (.cells #[.int .i64 0, .int .i64 0, .slice none 0 0, .slice none 0 0] 25)).below hb5 ((Blk.drew' hk0).alloc (.cells #[.int .i64 0, .int .i64 0, .slice none 0 0, .slice none 0 0] 25)).lt
   refine hK.out _ _ (⟨k1.cell 0, k1.cell 1⟩) (fun _ => ?_)
   clear hK K
   try simp only [Act.put, List.setIfInBounds_toArray, List.set_cons_zero, List.set_cons_succ]
   refine tk (v := ?_) 10 rfl (Or.inl ⟨by rfl, ?_⟩) ?_
   rotate_left
   ·intro w' hSw; (try dsimp only at hSw); first | (go_simp; done) | (go_simp; with_reducible rfl)
   try simp only [Act.put, List.setIfInBounds_toArray]
   refine wpAnyH_ready (rs := [12]) (by as_aux_lemma => kernel_rfl) (by simp) ?_
   refine AllReadyH.cons rfl (fun K hK => ?_) AllReadyH.nil
   have hs5 : wo.heap.size + 1 ≤ W1.heap.size := by have := hb5.size; simpa using this
   have hn : n0 ≤ wo.heap.size := Nat.le_of_eq HE.out.2.2.1.symm
   have kO : Blk W1 wo.heap.size #[.int .i64 0, .int .i64 0, .slice none 0 0, .slice none 0 0] 25 := (Blk.new wo.drew #[.int .i64 0, .int .i64 0, .slice none 0 0, .slice none 0 0] 25).below hb5 (Blk.new wo.drew _ _).lt
   have hcR := fill_chg W1 wo.heap.size (.int .i64 (st.ord.length : Int)) (.int .i64 0) (.slice none 0 0) (.slice aS S.length cS)
   have hX : Below n0 wo W1 := ((Below.refl n0 wo).drew.alloc hn _).trans (hb5.mono (by simp; omega))
   have hY : OutAt ((((W1.setCell ⟨wo.heap.size, 0, none⟩ (.int .i64 (st.ord.length : Int))).setCell ⟨wo.heap.size, 1, none⟩ (.int .i64 0)).setCell ⟨wo.heap.size, 2, none⟩ (.slice none 0 0)).setCell ⟨wo.heap.size, 3, none⟩ (.slice aS S.length cS)) n0 wo.heap.size (st.ord.length : Int) 0 [] S (.slice none 0 0) (.slice aS S.length cS) :=
    ⟨kO.fill _ _ _ _, World.ownsRow_nil _ _ _ _, own_base (own_chg hown5 hcR (fun g e h => by have := (hown5.lt g e).1; simp at this; omega)) (by simp; omega)⟩
   have k2 := k1.chg hcR (show ¬ B = wo.heap.size by omega)
   have HF := Lib.hid (And.intro (And.intro hinc hmem) (And.intro hY (hX.trans (hcR.below (fun k hk => by omega) (by omega)))))
   have o0 : W1.cell? ⟨wo.heap.size, 0, none⟩ = some (.int .i64 0) := kO.cell 0
   have o1 : W1.cell? ⟨wo.heap.size, 1, none⟩ = some (.int .i64 0) := kO.cell 1
   have o2 : W1.cell? ⟨wo.heap.size, 2, none⟩ = some (.slice none 0 0) := kO.cell 2
   have o3 : W1.cell? ⟨wo.heap.size, 3, none⟩ = some (.slice none 0 0) := kO.cell 3
   have of : ∀ j, W1.frozen? ⟨wo.heap.size, j, none⟩ = false := fun j => kO.frozen j
   clear hX hY hown5 hb5 hinc hmem hcR
   go_simp
   refine hK.out _ _ (⟨k2.cell 0, k2.cell 1⟩) (fun _ => ?_)
   clear hK K
   try simp only [Act.put, List.setIfInBounds_toArray, List.set_cons_zero, List.set_cons_succ]
   refine wpAnyH_done (by as_aux_lemma => kernel_rfl) ?_ _
   go_wp2_with fail
   go_meet
   exact ⟨_, S, aS, cS, rfl, HF.out.1, hn, HF.out.2.1, HF.out.2.2⟩
 obtain ⟨bO, S, aS, cS, rfl, hS, hnO, hO, hb⟩ := hcut
 obtain ⟨wd, rfl⟩ : ∃ wd : World, wd = wc := ⟨_, rfl⟩
 have hpo := HE.out.1.out HV.out.1 HV.out.2 HE.out.2.2.2 hS
 have hil' := HE.out.1.il
 have o0 : wd.cell? ⟨bO, 0, none⟩ = some (.int .i64 (st.ord.length : Int)) := hO.blk.cell 0
 have o3 : wd.cell? ⟨bO, 3, none⟩ = some (.slice aS S.length cS) := hO.blk.cell 3
 have hbs := HE.out.2.1.below (by rw [HE.out.2.2.1]; exact hb)
 have HO := Lib.hid (And.intro hO (And.intro hb (And.intro hS hbs)))
 clear hO hb hS hbs b0 b1 hk0 HQ
 have hSl := HO.out.2.2.1.len
 have hb1 : ¬ 4000 < st.ord.length := by omega
 have hb2 : ¬ 20000 < S.length := by omega
 clear hSl hsm2
 obtain rfl : i = st.ord.length := by omega
 have d3 : decide ((4000 : Int) < (st.ord.length : Int)) = false := decide_eq_false (by omega)
 have d4 : decide ((20000 : Int) < (S.length : Int)) = false := decide_eq_false (by omega)
 have Hv := Lib.hid (hpo.2 (fun h => h.elim hb1 hb2))
 obtain ⟨ii, hii, hii0, hii1, hii2⟩ := info_parts info_int
 clear hpo
 go_wp2_with fail
 go_loopw [17] (fun s wx => ∃ (k : Nat) (fv : Value), k ≤ st.ord.length ∧ s = .int .i64 k ∧ OutAt wx n0 bO (st.ord.length : Int) 0 (finO M N st.ord k) S fv (.slice aS S.length cS) ∧ Below n0 wo wx) (fun s _ => st.ord.length - (intOf s).toNat)
 case atStart => exact ⟨0, .slice none 0 0, Nat.zero_le _, rfl, HO.out.1, HO.out.2.1⟩
 case round =>
  clear o0 o3 d3 d4
  obtain ⟨k, fv, hk, rfl, hO, hb⟩ := hrel
  obtain ⟨wk, rfl⟩ : ∃ wk : World, wk = wr := ⟨_, rfl⟩
  have hbs := HE.out.2.1.below (by rw [HE.out.2.2.1]; exact hb)
  have hne := HE.out.2.2.1
  have c0 : wk.cell? ⟨B, 0, none⟩ = some (.slice pa st.ord.length pc) := hbs.1.cell 0
  obtain ⟨⟨kn, km, -⟩, -⟩ := FS.out wk hbs.2.2.2
  by_cases hkl : k < st.ord.length
  ·obtain ⟨pa', pc', e1, -, hrow⟩ := RowAt.of_own hbs.2.1
   injection e1 with e1 _ e1c
   subst e1 e1c
   obtain ⟨pb, po, rfl, -, hc⟩ := hrow.pairs (by omega)
   obtain ⟨z0, z1⟩ := hc k hkl
   have hfs := fin_step (M := M) (N := N) (List.prefix_refl st.ord) hkl
   obtain ⟨x, hx⟩ : ∃ x, st.ord[k] = x := ⟨_, rfl⟩
   rw [hx] at z0 z1 hfs
   have hfl := finO_len M N st.ord k
   have HW := Lib.hid (And.intro hO (And.intro hb hfs))
   have m0 := km.c0
   have m1 := km.c1
   have m2 := km.c2
   have m3 := km.c3
   have n0' := kn.c0
   have n1 := kn.c1
   have n2 := kn.c2
   have n3 := kn.c3
   have hlt := And.intro hbs.1.lt (And.intro km.lt kn.lt)
   have hgb : pb < wk.heap.size := World.block_lt_of_cell? wk _ z0
   have Km := Lib.hid (km.below (Below.refl _ _).drew)
   have Kn := Lib.hid (kn.below (Below.refl _ _).drew)
   have KB := Lib.hid (hbs.1.below (Below.refl _ _).drew hbs.1.lt)
   have Q1 := Lib.hid (IsFinal12_any M _ x.1 wk.drew Km.out.mach)
   have Q2 := Lib.hid (fun (W1 : World) (h : Below wk.drew.heap.size wk.drew W1) => IsFinal12_any N _ x.2 W1 (Kn.out.below h).mach)
   clear hc hrow hx hO hb hfs hbs km kn
   go_wp2_with fail
   go_upto_region 35 with (fail)
   go_cut [235] (fun v wx => v = .bool (decide (x.1 ∈ M.final ∧ x.2 ∈ N.final)) ∧ Below wk.heap.size wk wx)
   case first =>
    by_cases hm : x.1 ∈ M.final
    ·have Hmm := Lib.hid hm
     refine wp_region_held_drew (S := fun w' : World => w'.cell? ⟨w.heap.size, 0, none⟩ = some (.int .i64 M.states) ∧ w'.cell? ⟨w.heap.size, 1, none⟩ = some (.int .i64 M.start) ∧ w'.cell? ⟨w.heap.size, 2, none⟩ = some (.slice fm M.final.length gm) ∧ w'.cell? ⟨w.heap.size, 3, none⟩ = some (.slice am M.arcs.length bm) ∧ w'.cell? ⟨w.heap.size + 1, 0, none⟩ = some (.int .i64 N.states) ∧ w'.cell? ⟨w.heap.size + 1, 1, none⟩ = some (.int .i64 N.start) ∧ w'.cell? ⟨w.heap.size + 1, 2, none⟩ = some (.slice fn N.final.length gn) ∧ w'.cell? ⟨w.heap.size + 1, 3, none⟩ = some (.slice an N.arcs.length bn) ∧ w'.cell? ⟨B, 0, none⟩ = some (.slice (some ⟨pb, po, none⟩) st.ord.length pc) ∧ w'.cell? ⟨pb, po + k * 2, none⟩ = some (.int .i64 x.1) ∧ w'.cell? ⟨pb, po + k * 2 + 1, none⟩ = some (.int .i64 x.2)) (by kernel_rfl) ⟨m0, m1, m2, m3, n0', n1, n2, n3, c0, z0, z1⟩ (fun hHeld => ?_)
     refine tk (v := ?_) 0 rfl (Or.inl ⟨by rfl, ?_⟩) ?_
     rotate_left
     ·intro w' hSw; (try dsimp only at hSw); first | (go_simp; done) | (go_simp; with_reducible rfl)
     try simp only [Act.put, List.setIfInBounds_toArray]
     refine tk (v := ?_) 1 rfl (Or.inl ⟨by rfl, ?_⟩) ?_
     rotate_left
     ·intro w' hSw; (try dsimp only at hSw); first | (go_simp; done) | (go_simp; with_reducible rfl)
     try simp only [Act.put]
     refine tk (v := ?_) 2 rfl (Or.inl ⟨by rfl, ?_⟩) ?_
     rotate_left
     ·intro w' hSw; (try dsimp only at hSw); first | (go_simp; done) | (go_simp; with_reducible rfl)
     try simp only [Act.put]
     refine tk (v := ?_) 3 rfl (Or.inl ⟨by rfl, ?_⟩) ?_
     rotate_left
     ·intro w' hSw; (try dsimp only at hSw); first | (go_simp; done) | (go_simp; with_reducible rfl)
     try simp only [Act.put]
     refine tk (v := ?_) 4 rfl (Or.inl ⟨by rfl, ?_⟩) ?_
     rotate_left
     ·intro w' hSw; (try dsimp only at hSw); first | (go_simp; done) | (go_simp; with_reducible rfl)
     try simp only [Act.put]
     refine tk (v := ?_) 5 rfl (Or.inl ⟨by rfl, ?_⟩) ?_
     rotate_left
     ·intro w' hSw; (try dsimp only at hSw); first | (go_simp; done) | (go_simp; with_reducible rfl)
     try simp only [Act.put]
     refine tk (v := ?_) 6 rfl (Or.inl ⟨by rfl, ?_⟩) ?_
     rotate_left
     ·intro w' hSw; (try dsimp only at hSw); first | (go_simp; done) | (go_simp; with_reducible rfl)
     try simp only [Act.put]
     refine tk (v := ?_) 7 rfl (Or.inl ⟨by rfl, ?_⟩) ?_
     rotate_left
     ·intro w' hSw; (try dsimp only at hSw); first | (go_simp; done) | (go_simp; with_reducible rfl)
     try simp only [Act.put]
     refine tk (v := ?_) 8 rfl (Or.inl ⟨by rfl, ?_⟩) ?_
     rotate_left
     ·intro w' hSw; (try dsimp only at hSw); first | (go_simp; done) | (go_simp; with_reducible rfl)
     try simp only [Act.put]
     refine wpAnyH_ready (rs := [9]) (by as_aux_lemma => kernel_rfl) (by simp) ?_
     refine AllReadyH.cons rfl (fun K hK => ?_) AllReadyH.nil
     go_simp
     go_at_call 29
     refine Q1.out.mono ?_
     rintro e W1 ⟨rfl, hb1'⟩
     rw [decide_eq_true hm]
     clear hm
     have ams := Km.out.below hb1'
     have ans := Kn.out.below hb1'
     have ab := KB.out.below hb1' KB.out.lt
     have y0 := ams.c0
     have y1 := ams.c1
     have y2 := ams.c2
     have y3 := ams.c3
     have y4 := ans.c0
     have y5 := ans.c1
     have y6 := ans.c2
     have y7 := ans.c3
     have y9 := (hb1'.cell (p := ⟨pb, po + k * 2, none⟩) hgb).trans z0
     have y10 := (hb1'.cell (p := ⟨pb, po + k * 2 + 1, none⟩) hgb).trans z1
     have y8 := ab.cell 0
     have k1 := Lib.hid hb1'
     clear hb1'
     first | go_wp2_with fail | skip
     refine hK.out _ _ (⟨y0, y1, y2, y3, y4, y5, y6, y7, y8, y9, y10⟩) (fun _ => ?_)
     clear hK K
     try simp only [Act.put, List.setIfInBounds_toArray, List.set_cons_zero, List.set_cons_succ]
     refine tk (v := ?_) 10 (show _ = some ⟨some 224, _, _, _, _, _⟩ from rfl) (Or.inl ⟨by rfl, ?_⟩) ?_
     rotate_left
     ·intro w' hSw; (try dsimp only at hSw); first | (go_simp; done) | (go_simp; with_reducible rfl)
     try simp only [Act.put, List.setIfInBounds_toArray, List.set_cons_zero, List.set_cons_succ]
     refine tk (v := ?_) 11 (show _ = some ⟨some 225, _, _, _, _, _⟩ from rfl) (Or.inl ⟨by as_aux_lemma => kernel_rfl, ?_⟩) ?_
     rotate_left
     ·intro w' hSw; (try dsimp only at hSw); first | (go_simp; done) | (go_simp; with_reducible rfl)
     try simp only [Act.put, List.setIfInBounds_toArray, List.set_cons_zero, List.set_cons_succ]
     refine tk (v := ?_) 12 (show _ = some ⟨some 226, _, _, _, _, _⟩ from rfl) (Or.inl ⟨by as_aux_lemma => kernel_rfl, ?_⟩) ?_
     rotate_left
     ·intro w' hSw; (try dsimp only at hSw); first | (go_simp; done) | (go_simp; with_reducible rfl)
     try simp only [Act.put, List.setIfInBounds_toArray, List.set_cons_zero, List.set_cons_succ]
     refine tk (v := ?_) 13 (show _ = some ⟨some 227, _, _, _, _, _⟩ from rfl) (Or.inl ⟨by as_aux_lemma => kernel_rfl, ?_⟩) ?_
     rotate_left
     ·intro w' hSw; (try dsimp only at hSw); first | (go_simp; done) | (go_simp; with_reducible rfl)
     try simp only [Act.put, List.setIfInBounds_toArray, List.set_cons_zero, List.set_cons_succ]
     refine tk (v := ?_) 14 (show _ = some ⟨some 228, _, _, _, _, _⟩ from rfl) (Or.inl ⟨by as_aux_lemma => kernel_rfl, ?_⟩) ?_
     rotate_left
     ·intro w' hSw; (try dsimp only at hSw); first | (go_simp; done) | (go_simp; with_reducible rfl)
     try simp only [Act.put, List.setIfInBounds_toArray, List.set_cons_zero, List.set_cons_succ]
     refine tk (v := ?_) 15 (show _ = some ⟨some 229, _, _, _, _, _⟩ from rfl) (Or.inl ⟨by as_aux_lemma => kernel_rfl, ?_⟩) ?_
     rotate_left
     ·intro w' hSw; (try dsimp only at hSw); first | (go_simp; done) | (go_simp; with_reducible rfl)
     try simp only [Act.put, List.setIfInBounds_toArray, List.set_cons_zero, List.set_cons_succ]
     refine tk (v := ?_) 16 (show _ = some ⟨some 230, _, _, _, _, _⟩ from rfl) (Or.inl ⟨by as_aux_lemma => kernel_rfl, ?_⟩) ?_
     rotate_left
     ·intro w' hSw; (try dsimp only at hSw); first | (go_simp; done) | (go_simp; with_reducible rfl)
     try simp only [Act.put, List.setIfInBounds_toArray, List.set_cons_zero, List.set_cons_succ]
     refine tk (v := ?_) 17 (show _ = some ⟨some 231, _, _, _, _, _⟩ from rfl) (Or.inl ⟨by as_aux_lemma => kernel_rfl, ?_⟩) ?_
     rotate_left
     ·intro w' hSw; (try dsimp only at hSw); first | (go_simp; done) | (go_simp; with_reducible rfl)
     try simp only [Act.put, List.setIfInBounds_toArray, List.set_cons_zero, List.set_cons_succ]
     refine tk (v := ?_) 18 (show _ = some ⟨some 232, _, _, _, _, _⟩ from rfl) (Or.inl ⟨by as_aux_lemma => kernel_rfl, ?_⟩) ?_
     rotate_left
     ·intro w' hSw; (try dsimp only at hSw); first | (go_simp; done) | (go_simp; with_reducible rfl)
     try simp only [Act.put, List.setIfInBounds_toArray, List.set_cons_zero, List.set_cons_succ]
     refine tk (v := ?_) 19 (show _ = some ⟨some 233, _, _, _, _, _⟩ from rfl) (Or.inl ⟨by as_aux_lemma => kernel_rfl, ?_⟩) ?_
     rotate_left
     ·intro w' hSw; (try dsimp only at hSw); first | (go_simp; done) | (go_simp; with_reducible rfl)
     try simp only [Act.put, List.setIfInBounds_toArray, List.set_cons_zero, List.set_cons_succ]
     refine wpAnyH_ready (rs := [20]) (by as_aux_lemma => kernel_rfl) (by simp) ?_
     refine AllReadyH.cons rfl (fun K hK => ?_) AllReadyH.nil
     go_simp
     go_at_call 29
     refine (Q2.out W1 k1.out).mono ?_
     rintro e W2 ⟨rfl, hb2'⟩
     have cm := ams.below hb2'
     have cn := ans.below hb2'
     have cb := ab.below hb2' ab.lt
     have x0 := cm.c0
     have x1 := cm.c1
     have x2 := cm.c2
     have x3 := cm.c3
     have x4 := cn.c0
     have x5 := cn.c1
     have x6 := cn.c2
     have x7 := cn.c3
     have x9 := (hb2'.cell (p := ⟨pb, po + k * 2, none⟩) (Nat.lt_of_lt_of_le hgb k1.out.size)).trans y9
     have x10 := (hb2'.cell (p := ⟨pb, po + k * 2 + 1, none⟩) (Nat.lt_of_lt_of_le hgb k1.out.size)).trans y10
     have x8 := cb.cell 0
     have k2 := Lib.hid hb2'
     clear hb2'
     first | go_wp2_with fail | skip
     refine hK.out _ _ (⟨x0, x1, x2, x3, x4, x5, x6, x7, x8, x9, x10⟩) (fun _ => ?_)
     clear hK K
     try simp only [Act.put, List.setIfInBounds_toArray, List.set_cons_zero, List.set_cons_succ]
     refine tk (v := ?_) 21 (show _ = some ⟨some 235, _, _, _, _, _⟩ from rfl) (Or.inl ⟨by as_aux_lemma => kernel_rfl, ?_⟩) ?_
     rotate_left
     ·intro w' hSw; (try dsimp only at hSw); first | (go_simp; done) | (go_simp; with_reducible rfl)
     try simp only [Act.put, List.setIfInBounds_toArray, List.set_cons_zero, List.set_cons_succ]
     refine wpAnyH_done (by as_aux_lemma => kernel_rfl) ?_ _
     go_wp2_with fail
     go_meet
     exact ⟨by simp [Hmm.out], (Below.refl _ _).drew.trans (k1.out.trans (k2.out.mono k1.out.size))⟩
    ·have Hmm := Lib.hid hm
     refine wp_region_held_drew (S := fun w' : World => w'.cell? ⟨w.heap.size, 0, none⟩ = some (.int .i64 M.states) ∧ w'.cell? ⟨w.heap.size, 1, none⟩ = some (.int .i64 M.start) ∧ w'.cell? ⟨w.heap.size, 2, none⟩ = some (.slice fm M.final.length gm) ∧ w'.cell? ⟨w.heap.size, 3, none⟩ = some (.slice am M.arcs.length bm) ∧ w'.cell? ⟨w.heap.size + 1, 0, none⟩ = some (.int .i64 N.states) ∧ w'.cell? ⟨w.heap.size + 1, 1, none⟩ = some (.int .i64 N.start) ∧ w'.cell? ⟨w.heap.size + 1, 2, none⟩ = some (.slice fn N.final.length gn) ∧ w'.cell? ⟨w.heap.size + 1, 3, none⟩ = some (.slice an N.arcs.length bn) ∧ w'.cell? ⟨B, 0, none⟩ = some (.slice (some ⟨pb, po, none⟩) st.ord.length pc) ∧ w'.cell? ⟨pb, po + k * 2, none⟩ = some (.int .i64 x.1) ∧ w'.cell? ⟨pb, po + k * 2 + 1, none⟩ = some (.int .i64 x.2)) (by kernel_rfl) ⟨m0, m1, m2, m3, n0', n1, n2, n3, c0, z0, z1⟩ (fun hHeld => ?_)
     refine tk (v := ?_) 0 rfl (Or.inl ⟨by rfl, ?_⟩) ?_
     rotate_left
     ·intro w' hSw; (try dsimp only at hSw); first | (go_simp; done) | (go_simp; with_reducible rfl)
     try simp only [Act.put, List.setIfInBounds_toArray]
     refine tk (v := ?_) 1 rfl (Or.inl ⟨by rfl, ?_⟩) ?_
     rotate_left
     ·intro w' hSw; (try dsimp only at hSw); first | (go_simp; done) | (go_simp; with_reducible rfl)
     try simp only [Act.put]
     refine tk (v := ?_) 2 rfl (Or.inl ⟨by rfl, ?_⟩) ?_
     rotate_left
     ·intro w' hSw; (try dsimp only at hSw); first | (go_simp; done) | (go_simp; with_reducible rfl)
     try simp only [Act.put]
     refine tk (v := ?_) 3 rfl (Or.inl ⟨by rfl, ?_⟩) ?_
     rotate_left
     ·intro w' hSw; (try dsimp only at hSw); first | (go_simp; done) | (go_simp; with_reducible rfl)
     try simp only [Act.put]
     refine tk (v := ?_) 4 rfl (Or.inl ⟨by rfl, ?_⟩) ?_
     rotate_left
     ·intro w' hSw; (try dsimp only at hSw); first | (go_simp; done) | (go_simp; with_reducible rfl)
     try simp only [Act.put]
     refine tk (v := ?_) 5 rfl (Or.inl ⟨by rfl, ?_⟩) ?_
     rotate_left
     ·intro w' hSw; (try dsimp only at hSw); first | (go_simp; done) | (go_simp; with_reducible rfl)
     try simp only [Act.put]
     refine tk (v := ?_) 6 rfl (Or.inl ⟨by rfl, ?_⟩) ?_
     rotate_left
     ·intro w' hSw; (try dsimp only at hSw); first | (go_simp; done) | (go_simp; with_reducible rfl)
     try simp only [Act.put]
     refine tk (v := ?_) 7 rfl (Or.inl ⟨by rfl, ?_⟩) ?_
     rotate_left
     ·intro w' hSw; (try dsimp only at hSw); first | (go_simp; done) | (go_simp; with_reducible rfl)
     try simp only [Act.put]
     refine tk (v := ?_) 8 rfl (Or.inl ⟨by rfl, ?_⟩) ?_
     rotate_left
     ·intro w' hSw; (try dsimp only at hSw); first | (go_simp; done) | (go_simp; with_reducible rfl)
     try simp only [Act.put]
     refine wpAnyH_ready (rs := [9]) (by as_aux_lemma => kernel_rfl) (by simp) ?_
     refine AllReadyH.cons rfl (fun K hK => ?_) AllReadyH.nil
     go_simp
     go_at_call 29
     refine Q1.out.mono ?_
     rintro e W1 ⟨rfl, hb1'⟩
     rw [decide_eq_false hm]
     clear hm
     have ams := Km.out.below hb1'
     have ans := Kn.out.below hb1'
     have ab := KB.out.below hb1' KB.out.lt
     have y0 := ams.c0
     have y1 := ams.c1
     have y2 := ams.c2
     have y3 := ams.c3
     have y4 := ans.c0
     have y5 := ans.c1
     have y6 := ans.c2
     have y7 := ans.c3
     have y9 := (hb1'.cell (p := ⟨pb, po + k * 2, none⟩) hgb).trans z0
     have y10 := (hb1'.cell (p := ⟨pb, po + k * 2 + 1, none⟩) hgb).trans z1
     have y8 := ab.cell 0
     have k1 := Lib.hid hb1'
     clear hb1'
     first | go_wp2_with fail | skip
     refine hK.out _ _ (⟨y0, y1, y2, y3, y4, y5, y6, y7, y8, y9, y10⟩) (fun _ => ?_)
     clear hK K
     try simp only [Act.put, List.setIfInBounds_toArray, List.set_cons_zero, List.set_cons_succ]
     refine tk (v := ?_) 10 (show _ = some ⟨some 224, _, _, _, _, _⟩ from rfl) (Or.inl ⟨by rfl, ?_⟩) ?_
     rotate_left
     ·intro w' hSw; (try dsimp only at hSw); first | (go_simp; done) | (go_simp; with_reducible rfl)
     try simp only [Act.put, List.setIfInBounds_toArray, List.set_cons_zero, List.set_cons_succ]
     refine tk (v := undef) 11 (show _ = some ⟨some 225, _, _, _, _, _⟩ from rfl) (Or.inr ⟨by as_aux_lemma => kernel_rfl, rfl⟩) ?_
     try simp only [Act.put, List.setIfInBounds_toArray, List.set_cons_zero, List.set_cons_succ]
     refine tk (v := undef) 12 (show _ = some ⟨some 226, _, _, _, _, _⟩ from rfl) (Or.inr ⟨by as_aux_lemma => kernel_rfl, rfl⟩) ?_
     try simp only [Act.put, List.setIfInBounds_toArray, List.set_cons_zero, List.set_cons_succ]
     refine tk (v := undef) 13 (show _ = some ⟨some 227, _, _, _, _, _⟩ from rfl) (Or.inr ⟨by as_aux_lemma => kernel_rfl, rfl⟩) ?_
     try simp only [Act.put, List.setIfInBounds_toArray, List.set_cons_zero, List.set_cons_succ]
     refine tk (v := undef) 14 (show _ = some ⟨some 228, _, _, _, _, _⟩ from rfl) (Or.inr ⟨by as_aux_lemma => kernel_rfl, rfl⟩) ?_
     try simp only [Act.put, List.setIfInBounds_toArray, List.set_cons_zero, List.set_cons_succ]
     refine tk (v := undef) 15 (show _ = some ⟨some 229, _, _, _, _, _⟩ from rfl) (Or.inr ⟨by as_aux_lemma => kernel_rfl, rfl⟩) ?_
     try simp only [Act.put, List.setIfInBounds_toArray, List.set_cons_zero, List.set_cons_succ]
     refine tk (v := undef) 16 (show _ = some ⟨some 230, _, _, _, _, _⟩ from rfl) (Or.inr ⟨by as_aux_lemma => kernel_rfl, rfl⟩) ?_
     try simp only [Act.put, List.setIfInBounds_toArray, List.set_cons_zero, List.set_cons_succ]
     refine tk (v := undef) 17 (show _ = some ⟨some 231, _, _, _, _, _⟩ from rfl) (Or.inr ⟨by as_aux_lemma => kernel_rfl, rfl⟩) ?_
     try simp only [Act.put, List.setIfInBounds_toArray, List.set_cons_zero, List.set_cons_succ]
     refine tk (v := undef) 18 (show _ = some ⟨some 232, _, _, _, _, _⟩ from rfl) (Or.inr ⟨by as_aux_lemma => kernel_rfl, rfl⟩) ?_
     try simp only [Act.put, List.setIfInBounds_toArray, List.set_cons_zero, List.set_cons_succ]
     refine tk (v := undef) 19 (show _ = some ⟨some 233, _, _, _, _, _⟩ from rfl) (Or.inr ⟨by as_aux_lemma => kernel_rfl, rfl⟩) ?_
     try simp only [Act.put, List.setIfInBounds_toArray, List.set_cons_zero, List.set_cons_succ]
     refine tk (v := undef) 20 (show _ = some ⟨some 234, _, _, _, _, _⟩ from rfl) (Or.inr ⟨by as_aux_lemma => kernel_rfl, rfl⟩) ?_
     try simp only [Act.put, List.setIfInBounds_toArray, List.set_cons_zero, List.set_cons_succ]
     refine tk (v := ?_) 21 (show _ = some ⟨some 235, _, _, _, _, _⟩ from rfl) (Or.inl ⟨by as_aux_lemma => kernel_rfl, ?_⟩) ?_
     rotate_left
     ·intro w' hSw; (try dsimp only at hSw); first | (go_simp; done) | (go_simp; with_reducible rfl)
     try simp only [Act.put, List.setIfInBounds_toArray, List.set_cons_zero, List.set_cons_succ]
     refine wpAnyH_done (by as_aux_lemma => kernel_rfl) ?_ _
     go_wp2_with fail
     go_meet
     exact ⟨by simp [Hmm.out], (Below.refl _ _).drew.trans k1.out⟩
   obtain ⟨rfl, hcut⟩ := hcut
   obtain ⟨wz, rfl⟩ : ∃ wz : World, wz = wc := ⟨_, rfl⟩
   have hzn : n0 ≤ wk.heap.size := by have := HW.out.1.blk.lt; omega
   have HC := Lib.hid (And.intro (HW.out.1.below hcut) (HW.out.2.1.trans (hcut.mono hzn)))
   clear hcut m0 m1 m2 m3 n0' n1 n2 n3 c0 z0 z1 Q1 Q2
   by_cases hg : x.1 ∈ M.final ∧ x.2 ∈ N.final
   ·rw [decide_eq_true hg]
    have Hg := Lib.hid hg
    clear hg
    obtain ⟨va', vc', rfl, -, -⟩ := RowAt.of_own HC.out.1.fin
    have o2 : wz.cell? ⟨bO, 2, none⟩ = some (.slice va' (finO M N st.ord k).length vc') := HC.out.1.blk.cell 2
    go_wp2_with (at_builtin; refine wpList_append_own_at _ rfl _ _ 22 rfl n0 3 ii (.int .i64 0) 1 8 Tryz.underlying22 hii hii0 hii1 hii2 rfl (by decide) _ _ _ rfl (HC.out.1.fin.alloc _) ⟨wz.heap.size, 0, none⟩ 1 1 [.int .i64 (k : Int)] rfl rfl (by exact cell_one_new _ _ _) (by simp [Value.oneCell']) (by unfold maxLen; omega) (by omega) (by have := HC.out.1.blk.lt; simp; omega) ?_)
    intro v9 w9 hown hgrow _ _
    obtain ⟨va9, vc9, rfl, -, -⟩ := RowAt.of_own hown
    obtain ⟨f1, f2, -, f4⟩ := HC.out.1.fin_step (x := (k : Int)) hnO ((Below.refl _ _).alloc (Nat.le_refl _) _) hown hgrow
    have y2 : w9.cell? ⟨bO, 2, none⟩ = some (.slice va' (finO M N st.ord k).length vc') := f2.cell 2
    have fz2 := f2.frozen 2
    have HF9 := Lib.hid (And.intro f1 (HC.out.2.trans f4))
    clear hown hgrow f1 f2 f4 o2
    go_wp2_with fail
    exact ⟨⟨k + 1, _, by omega, by go_num, by rw [HW.out.2.2, if_pos Hg.out]; exact HF9.out.1, HF9.out.2⟩, by simp [intOf]; omega⟩
   ·rw [decide_eq_false hg]
    have Hg := Lib.hid hg
    clear hg
    go_wp2_with fail
    exact ⟨⟨k + 1, _, by omega, by go_num, by rw [HW.out.2.2, if_neg Hg.out, List.append_nil]; exact HC.out.1, HC.out.2⟩, by simp [intOf]; omega⟩
  ·obtain rfl : k = st.ord.length := by omega
   obtain ⟨fva, fvc, rfl, -, -⟩ := RowAt.of_own hO.fin
   obtain ⟨_, _, e1, -, hrS⟩ := RowAt.of_own hO.arc
   injection e1 with e1 _ e1c
   subst e1 e1c
   have hfl := finO_len M N st.ord st.ord.length
   have Hm2 := Lib.hid ((made_mach (st := (st.ord.length : Int)) (s0 := 0) (cS := cS) hO.blk hO.fin hrS (by unfold maxLen; omega) (by unfold maxLen; omega)).1)
   have o0 : wk.cell? ⟨bO, 0, none⟩ = some (.int .i64 (st.ord.length : Int)) := hO.blk.cell 0
   have o1 : wk.cell? ⟨bO, 1, none⟩ = some (.int .i64 0) := hO.blk.cell 1
   have o2 : wk.cell? ⟨bO, 2, none⟩ = some (.slice fva (finO M N st.ord st.ord.length).length fvc) := hO.blk.cell 2
   have o3 : wk.cell? ⟨bO, 3, none⟩ = some (.slice aS S.length cS) := hO.blk.cell 3
   have hlt := hbs.1.lt
   have HB2 := Lib.hid hbs
   clear hO hb hbs hrS km kn hne
   go_wp2_with fail
   refine (Trim12_new _ _ _ Hm2.out).mono ?_
   rintro e w3 ⟨v, C, err, rfl, hmC, hb3, -, hC, hnw⟩
   obtain ⟨rfl, rfl⟩ := hC Hv.out.1
   obtain ⟨⟨-, -, hbw⟩, kR⟩ := FS.out w3 (HB2.out.below hb3).2.2.2
   obtain ⟨fC, cC, aC, dC, rfl, hC1, hC2, hC3, hC4⟩ := hmC
   have hnf : ∀ p, fC = some p → w.heap.size + 2 < p.block := fun p hp => by
    have := hnw _ _ p _ _ _ (by rw [hp])
    omega
   have q0 : w3.cell? ⟨w.heap.size + 2, 0, none⟩ = some (.int .i64 0) := kR.cell 0
   have q1 : w3.cell? ⟨w.heap.size + 2, 1, none⟩ = some (.int .i64 0) := kR.cell 1
   have q2 : w3.cell? ⟨w.heap.size + 2, 2, none⟩ = some (.slice none 0 0) := kR.cell 2
   have q3 : w3.cell? ⟨w.heap.size + 2, 3, none⟩ = some (.slice none 0 0) := kR.cell 3
   have fz : ∀ j, w3.frozen? ⟨w.heap.size + 2, j, none⟩ = false := fun j => kR.frozen j
   have H3 := Lib.hid (And.intro kR (And.intro hbw (And.intro hC1 (And.intro hC2 (And.intro hC3 (And.intro hC4 hnf))))))
   clear kR hbw hC1 hC2 hC3 hC4 hnf hnw hb3 hC o0 o1 o2 o3
   go_wp2_with fail
   obtain ⟨TM, hTM⟩ : ∃ TM, trimM ⟨(st.ord.length : Nat), 0, finO M N st.ord st.ord.length, S⟩ = TM := ⟨_, rfl⟩
   have hcR := fill_chg w3 (w.heap.size + 2) (.int .i64 (trimM ⟨(st.ord.length : Nat), 0, finO M N st.ord st.ord.length, S⟩).states) (.int .i64 (trimM ⟨(st.ord.length : Nat), 0, finO M N st.ord st.ord.length, S⟩).start) (.slice fC (trimM ⟨(st.ord.length : Nat), 0, finO M N st.ord st.ord.length, S⟩).final.length cC) (.slice aC (trimM ⟨(st.ord.length : Nat), 0, finO M N st.ord st.ord.length, S⟩).arcs.length dC)
   refine bodyPost_ret (v := .tuple #[.agg #[.int .i64 (trimM ⟨(st.ord.length : Nat), 0, finO M N st.ord st.ord.length, S⟩).states, .int .i64 (trimM ⟨(st.ord.length : Nat), 0, finO M N st.ord st.ord.length, S⟩).start, .slice fC (trimM ⟨(st.ord.length : Nat), 0, finO M N st.ord st.ord.length, S⟩).final.length cC, .slice aC (trimM ⟨(st.ord.length : Nat), 0, finO M N st.ord st.ord.length, S⟩).arcs.length dC], .int .i64 0]) (by simp [results, Tryz.results8, go_sem, q0, q1, q2, q3]) rfl ?_
   obtain ⟨kR, hbw, hC1, hC2, hC3, hC4, hnf⟩ := H3.out
   refine ⟨_, _, 0, rfl, ?_, hbw.trans (hcR.below (fun k hk => by omega) hbw.size), Hv.out.2⟩
   exact ⟨_, _, _, _, rfl, hC1, hC2, (hC3.chg hcR (Nat.le_refl _) (fun h0 p hp e => by have := hnf p hp; omega)).more hcR.size, (hC4.chg hcR (Nat.le_refl _) (fun h0 p hp => row_arc_ne hC4 kR h0 p hp)).more hcR.size⟩
end Go.Proofs.YtfihjpffjdnahaaGreatDoor
