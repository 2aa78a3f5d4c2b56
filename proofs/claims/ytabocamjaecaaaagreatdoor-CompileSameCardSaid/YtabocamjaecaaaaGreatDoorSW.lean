/- Plain words: what rules write for a word, and that a compiled machine's results are just this. No program in sight. -/
import Derived.Test.YtabocamjaecaaaaGreatDoorSC
import Derived.Test.YtabocamjaecaaaaGreatDoorPB
namespace Go.Proofs.YtabocamjaecaaaaGreatDoor
open Go Classical

theorem revInd {α : Type} {p : List α → Prop} (nil : p []) (snoc : ∀ l a, p l → p (l ++ [a])) (l : List α) : p l := by
 have h : ∀ m : List α, p m.reverse := fun m => by
  induction m with
  | nil => exact nil
  | cons a m ih => rw [List.reverse_cons]; exact snoc _ _ ih
 have := h l.reverse
 rwa [List.reverse_reverse] at this
def rdL (L : List (List UInt8)) (t : List UInt8) : List Int := (readL L t).letters
theorem rdL_nil (L : List (List UInt8)) : rdL L [] = [] := by simp [rdL, readL]
/-- A rule may stand before what is left of a word. -/
def Stands (L : List (List UInt8)) (x : RulL) (rest : List Int) : Prop :=
 (rdL L x.src).length ≤ rest.length ∧ rdL L x.src = rest.take (rdL L x.src).length ∧
 (if x.fin = true then (rdL L x.src).length = rest.length else if 0 < (rdL L x.nxt).length then (rdL L x.src).length < rest.length ∧ rest[(rdL L x.src).length]?.getD (-1) ∈ rdL L x.nxt else True)
/-- What is written before a place of a word. -/
inductive Writ (L : List (List UInt8)) (all : List RulL) (w : List Int) : Nat → List UInt8 → Prop
 | zero : Writ L all w 0 []
 | step {k : Nat} {s : List UInt8} {x : RulL} : Writ L all w k s → k < w.length → x ∈ all → Stands L x (w.drop k) → Writ L all w (k + (rdL L x.src).length) (s ++ x.dst)

/-- The letters' numbers. -/
def ids (L : List (List UInt8)) (ls : List (List UInt8)) : List Int := ls.map (fun l => ((L.idxOf l : Nat) : Int))
def txt (L : List (List UInt8)) (i : Int) : List UInt8 := L[i.toNat]?.getD []
section
variable {L : List (List UInt8)}
theorem txt_ids {ls : List (List UInt8)} (h : ∀ l ∈ ls, l ∈ L) : (ids L ls).flatMap (txt L) = ls.flatten := by
 induction ls with
 | nil => rfl
 | cons l ls ih =>
  have hl := h l (List.mem_cons_self ..)
  have h1 := ih (fun m hm => h m (List.mem_cons_of_mem _ hm))
  have hlt := List.idxOf_lt_length_of_mem hl
  have e : txt L ((L.idxOf l : Nat) : Int) = l := by
   unfold txt
   rw [Int.toNat_natCast, List.getElem?_eq_getElem hlt, List.getElem_idxOf]
   rfl
  unfold ids at h1 ⊢
  rw [List.map_cons, List.flatMap_cons, List.flatten_cons, h1, e]
theorem readGo_ids (hT : Told L) : ∀ (ls : List (List UInt8)) (f o : Nat) (acc : List Int), (∀ m ∈ ls, m ∈ L) → ls.length ≤ f → (readGo L f ls.flatten o acc).letters = acc ++ ids L ls
 | [], f, o, acc, _, _ => by cases f <;> simp [readGo, ids]
 | l :: ls, f, o, acc, ha, hf => by
  have hl := ha l (List.mem_cons_self ..)
  have ha' : ∀ m ∈ ls, m ∈ L := fun m hm => ha m (List.mem_cons_of_mem _ hm)
  obtain ⟨k, hk1, hk2⟩ := at_cat hT hl ha'
  have hne : ¬ (l ++ ls.flatten = []) := fun e => by
   have := (hT.len l hl).1
   rw [(List.append_eq_nil_iff.1 e).1] at this
   simp at this
  rw [List.length_cons] at hf
  obtain ⟨f', rfl⟩ : ∃ f', f = f' + 1 := ⟨f - 1, by omega⟩
  have e : readGo L (f' + 1) (l ++ ls.flatten) o acc = readGo L f' ls.flatten (o + l.length) (acc ++ [(k : Int)]) := by
   conv => lhs; unfold readGo
   rw [if_neg hne, hk1]
   simp only [hk2, Option.getD_some, List.drop_left]
  rw [List.flatten_cons, e, readGo_ids hT ls f' _ _ ha' (by omega), List.append_assoc]
  unfold ids
  rw [List.map_cons, idxOf_getElem hT.nodup hk2]
  rfl
theorem read_inv (hT : Told L) {t : List UInt8} (h : (readL L t).err = 0) : ∃ ls : List (List UInt8), ls ≠ [] ∧ (∀ m ∈ ls, m ∈ L) ∧ t = ls.flatten ∧ rdL L t = ids L ls := by
 obtain ⟨ls, h1, h2, rfl⟩ := cat_iff.1 (cat_of_read h)
 have hl := flatten_len (fun l hl => (hT.len l hl).1) ls h2
 have hp := List.length_pos_iff.2 h1
 have hne : ¬ ls.flatten = [] := fun e => by rw [e, List.length_nil] at hl; omega
 refine ⟨ls, h1, h2, rfl, ?_⟩
 unfold rdL
 unfold readL at h ⊢
 rw [if_neg hne] at h ⊢
 have h24 : ls.length ≤ 24 := by
  rcases Nat.lt_or_ge 24 ls.length with h3 | h3
  ·rw [(readGo_cat hT ls 24 0 [] h2).2 h3] at h
   simp at h
  ·exact h3
 rw [readGo_ids hT ls 24 0 [] h2 h24, List.nil_append]
/-- A rule's letters. -/
structure RulL.lett (L : List (List UInt8)) (x : RulL) : Prop where
 src : (readL L x.src).err = 0
 nxt : x.nxt ≠ [] → (readL L x.nxt).err = 0
 fin : x.nxt ≠ [] → x.fin = false
theorem rd_pos (hT : Told L) {t : List UInt8} (h : (readL L t).err = 0) : 0 < (rdL L t).length := by
 obtain ⟨ls, h1, _, _, e⟩ := read_inv hT h
 rw [e]
 unfold ids
 rw [List.length_map]
 exact List.length_pos_iff.2 h1
theorem rd_txt (hT : Told L) {t : List UInt8} (h : (readL L t).err = 0) : (rdL L t).flatMap (txt L) = t := by
 obtain ⟨ls, _, h2, e1, e⟩ := read_inv hT h
 rw [e, txt_ids h2, ← e1]
def letsR (L : List (List UInt8)) (rs : List RulL) : List Int := rs.flatMap (fun x => rdL L x.src)
theorem letsR_append (a b : List RulL) : letsR L (a ++ b) = letsR L a ++ letsR L b := by simp [letsR]
theorem letsR_one (x : RulL) : letsR L [x] = rdL L x.src := by simp [letsR]
theorem srcs_txt (hT : Told L) : ∀ {rs : List RulL}, (∀ x ∈ rs, (readL L x.src).err = 0) → (letsR L rs).flatMap (txt L) = srcs rs
 | [], _ => rfl
 | x :: rs, h => by
  have h1 := srcs_txt hT (rs := rs) (fun y hy => h y (List.mem_cons_of_mem _ hy))
  have h2 := rd_txt hT (h x (List.mem_cons_self ..))
  unfold letsR srcs at h1 ⊢
  rw [List.flatMap_cons, List.flatMap_cons, List.flatMap_append, h1, h2]
/-- The letters of the rules' texts, one after the other. -/
theorem srcs_lets (hT : Told L) : ∀ {rs : List RulL}, (∀ x ∈ rs, (readL L x.src).err = 0) → ∃ ls : List (List UInt8), (∀ m ∈ ls, m ∈ L) ∧ srcs rs = ls.flatten ∧ letsR L rs = ids L ls
 | [], _ => ⟨[], by simp, rfl, rfl⟩
 | x :: rs, h => by
  obtain ⟨ls, h1, h2, h3⟩ := srcs_lets hT (rs := rs) (fun y hy => h y (List.mem_cons_of_mem _ hy))
  obtain ⟨ms, _, q1, q2, q3⟩ := read_inv hT (h x (List.mem_cons_self ..))
  refine ⟨ms ++ ls, fun m hm => (List.mem_append.1 hm).elim (q1 m) (h1 m), ?_, ?_⟩
  ·rw [List.flatten_append, ← h2, ← q2]; simp [srcs]
  ·unfold ids at q3 h3 ⊢
   rw [List.map_append, ← h3, ← q3]; simp [letsR]
theorem read_srcs (hT : Told L) {rs : List RulL} (h : ∀ x ∈ rs, (readL L x.src).err = 0) (hr : (readL L (srcs rs)).err = 0) : rdL L (srcs rs) = letsR L rs := by
 obtain ⟨ls, h1, h2, h3⟩ := srcs_lets hT h
 rw [h2] at hr ⊢
 have hne : ¬ ls.flatten = [] := fun e => by rw [e] at hr; simp [readL] at hr
 unfold rdL
 unfold readL at hr ⊢
 rw [if_neg hne] at hr ⊢
 have h24 : ls.length ≤ 24 := by
  rcases Nat.lt_or_ge 24 ls.length with h4 | h4
  ·rw [(readGo_cat hT ls 24 0 [] h1).2 h4] at hr
   simp at hr
  ·exact h4
 rw [readGo_ids hT ls 24 0 [] h1 h24, List.nil_append, h3]
variable {all : List RulL}
theorem Chain.pre {a : List RulL} : ∀ {b : List RulL}, Chain L all (a ++ b) → Chain L all a := by
 intro b
 induction b using revInd with
 | nil => intro h; simpa using h
 | snoc b x ih =>
  intro h
  rw [← List.append_assoc] at h
  exact ih h.last.1
theorem Chain.between {a b : List RulL} {x y : RulL} (h : Chain L all (a ++ x :: y :: b)) : x.fin = false ∧ (x.nxt = [] ∨ begB L y x = true) := by
 have e : a ++ x :: y :: b = (a ++ [x] ++ [y]) ++ b := by simp
 rw [e] at h
 exact h.pre.last.2.2 x (by simp)
/-- Rules, one after the other, write. -/
theorem chain_writ (hT : Told L) (hl : ∀ x ∈ all, x.lett L) {rs : List RulL} {o : RulL} (hc : Chain L all (rs ++ [o])) (ho : o.nxt = []) :
  ∀ a b, a ++ b = rs ++ [o] → Writ L all (letsR L (rs ++ [o])) (letsR L a).length (dsts a) := by
 intro a
 induction a using revInd with
 | nil => intro b _; exact .zero
 | snoc a x ih =>
  intro b hb
  have h1 := ih (x :: b) (by simpa using hb)
  have hx : x ∈ all := hc.mem x (by rw [← hb]; simp)
  have hpos := rd_pos hT (hl x hx).src
  have hw : letsR L (rs ++ [o]) = letsR L a ++ (rdL L x.src ++ letsR L b) := by rw [← hb, letsR_append, letsR_append, letsR_one, List.append_assoc]
  have hd : (letsR L (rs ++ [o])).drop (letsR L a).length = rdL L x.src ++ letsR L b := by rw [hw, List.drop_left]
  have hs : Stands L x ((letsR L (rs ++ [o])).drop (letsR L a).length) := by
   rw [hd]
   refine ⟨by rw [List.length_append]; omega, by rw [List.take_left], ?_⟩
   cases b with
   | nil =>
    have e1 : a ++ [x] = rs ++ [o] := by simpa using hb
    obtain ⟨_, e3⟩ := List.append_inj' e1 rfl
    obtain rfl : x = o := by simpa using e3
    split
    ·simp [letsR]
    ·rw [ho, rdL_nil]; simp
   | cons y b =>
    have hb' : a ++ x :: y :: b = rs ++ [o] := by simpa using hb
    rw [← hb'] at hc
    obtain ⟨f1, f2⟩ := hc.between
    have hy : y ∈ all := hc.mem y (by simp)
    have hyp := rd_pos hT (hl y hy).src
    rw [if_neg (by rw [f1]; decide)]
    split
    ·rename_i hn
     have e : letsR L (y :: b) = rdL L y.src ++ letsR L b := by simp [letsR]
     refine ⟨by rw [List.length_append, e, List.length_append]; omega, ?_⟩
     rcases f2 with f2 | f2
     ·rw [f2, rdL_nil] at hn; simp at hn
     ·unfold begB firstLetter at f2
      have f3 := List.contains_iff_mem.1 f2
      rw [List.getElem?_append_right (Nat.le_refl _), Nat.sub_self, e, List.getElem?_append_left hyp]
      exact f3
    ·trivial
  have := h1.step (by rw [hw, List.length_append, List.length_append]; omega) hx hs
  have e1 : (letsR L (a ++ [x])).length = (letsR L a).length + (rdL L x.src).length := by rw [letsR_append, letsR_one, List.length_append]
  rw [e1, dsts_snoc]
  exact this
/-- What is written was written by rules, one after the other. -/
theorem writ_chain (hT : Told L) (hl : ∀ x ∈ all, x.lett L) {w : List Int} {k : Nat} {s : List UInt8} (h : Writ L all w k s) :
  ∃ rs, Chain L all rs ∧ letsR L rs = w.take k ∧ s = dsts rs ∧ k ≤ w.length ∧ ∀ o, rs.getLast? = some o → (o.fin = true → k = w.length) ∧ (o.nxt ≠ [] → k < w.length ∧ w[k]?.getD (-1) ∈ rdL L o.nxt) := by
 induction h with
 | zero => exact ⟨[], .nil, by simp [letsR], rfl, Nat.zero_le _, fun o h => by simp at h⟩
 | @step k s x _ hk hx hst ih =>
  obtain ⟨rs, hc, h1, rfl, h3, h4⟩ := ih
  obtain ⟨s1, s2, s3⟩ := hst
  rw [List.length_drop] at s1 s3
  have hlx := hl x hx
  have hpos := rd_pos hT hlx.src
  have hfirst : firstLetter L x.src = w[k]?.getD (-1) := by
   unfold firstLetter
   show (rdL L x.src)[0]?.getD (-1) = _
   rw [s2, List.getElem?_take_of_lt hpos, List.getElem?_drop, Nat.add_zero]
  refine ⟨rs ++ [x], .snoc hc hx (fun o ho => ?_), ?_, (dsts_snoc _ _).symm, by omega, fun o ho => ?_⟩
  ·obtain ⟨q1, q2⟩ := h4 o ho
   refine ⟨?_, ?_⟩
   ·cases hf : o.fin with
    | false => rfl
    | true => have := q1 hf; omega
   ·by_cases hn : o.nxt = []
    ·exact .inl hn
    ·refine .inr ?_
     unfold begB
     rw [List.contains_iff_mem, hfirst]
     exact (q2 hn).2
  ·rw [letsR_append, letsR_one, h1, List.take_add]
   congr 1
  ·obtain rfl : x = o := by simpa using ho
   constructor
   ·intro hf
    rw [if_pos hf] at s3
    omega
   ·intro hn
    rw [if_neg (by rw [hlx.fin hn]; decide), if_pos (rd_pos hT (hlx.nxt hn)), List.getElem?_drop] at s3
    exact ⟨by omega, s3.2⟩
theorem writ_iff (hT : Told L) (hl : ∀ x ∈ all, x.lett L) {wd t : List UInt8} (h : (readL L wd).err = 0) :
  Writ L all (rdL L wd) (rdL L wd).length t ↔ ∃ rs o, Chain L all (rs ++ [o]) ∧ o.nxt = [] ∧ wd = srcs (rs ++ [o]) ∧ t = dsts (rs ++ [o]) := by
 have hp := rd_pos hT h
 constructor
 ·intro hw
  obtain ⟨rs, hc, h1, rfl, _, h4⟩ := writ_chain hT hl hw
  rw [List.take_length] at h1
  rcases List.eq_nil_or_concat rs with rfl | ⟨rs', o, rfl⟩
  ·rw [← h1] at hp
   simp [letsR] at hp
  ·rw [List.concat_eq_append] at hc h1 h4 ⊢
   refine ⟨rs', o, hc, ?_, ?_, rfl⟩
   ·rcases Classical.em (o.nxt = []) with hn | hn
    ·exact hn
    ·have := (h4 o (by simp)).2 hn
     omega
   ·rw [← srcs_txt hT (fun x hx => (hl x (hc.mem x hx)).src), h1, rd_txt hT h]
 ·rintro ⟨rs, o, hc, hn, rfl, rfl⟩
  rw [read_srcs hT (fun x hx => (hl x (hc.mem x hx)).src) h]
  exact chain_writ hT hl hc hn (rs ++ [o]) [] (by simp)
end
theorem rul_lett {R : Ruls} {A B : Alph} (hV : Valid11 R A B) : ∀ x ∈ R.list.map Rul.l, x.lett A.bls := by
 intro x hx
 obtain ⟨r, hr, rfl⟩ := List.mem_map.1 hx
 have hok := hV.1.2.2.2.2.1 r hr
 obtain ⟨l1, _, l3⟩ := hV.2.2.2.2.2 r hr
 refine ⟨?_, fun hn => ?_, (rul_good hok).fin⟩
 ·rcases l1 with e | e
  ·have h1 := hok.1.2.1
   have h2 := bl_length r.src
   rw [e] at h2
   simp at h2
   omega
  ·exact e.1
 ·rcases l3 with e | e
  ·exact absurd e hn
  ·exact e.1
/-- What a compiled machine's results for a word are. -/
theorem result_writ {R : Ruls} {A B : Alph} {M : Mach} (hM : CompileOf R A M) (hV : Valid11 R A B) {x : List UInt8} (hx : (readL A.bls x).err = 0) {t : ByteArray} :
  Result M x t ↔ Writ A.bls (R.list.map Rul.l) (rdL A.bls x) (rdL A.bls x).length (bl t) := by
 rw [compiled_result hM hV.1, writ_iff (told_of hV.2.1) (rul_lett hV) hx]
/-- A text with a result is a word; a result is empty, or letters. -/
theorem result_words {R : Ruls} {A B : Alph} {M : Mach} (hM : CompileOf R A M) (hV : Valid11 R A B) {x : List UInt8} {t : ByteArray} (h : Result M x t) :
  ((readL A.bls x).err = 0 ∨ ((readL A.bls x).err = 2 ∧ 24 < x.length)) ∧ (bl t = [] ∨ (readL B.bls (bl t)).err = 0 ∨ (readL B.bls (bl t)).err = 2) := by
 obtain ⟨rs, o, hc, _, rfl, e⟩ := (compiled_result hM hV.1).1 h
 rw [e]
 have hlet := rul_lett hV
 have hTA := told_of hV.2.1
 constructor
 ·refine read_cat hTA ?_
  obtain ⟨ls, h1, h2, h3⟩ := srcs_lets hTA (rs := rs ++ [o]) (fun x hx => (hlet x (hc.mem x hx)).src)
  rw [h2]
  refine cat_iff.2 ⟨ls, fun e => ?_, h1, rfl⟩
  have hp := rd_pos hTA (hlet o (hc.mem o (by simp))).src
  rw [e, letsR_append, letsR_one] at h3
  have h4 : (letsR A.bls rs ++ rdL A.bls o.src).length = 0 := by rw [h3]; rfl
  rw [List.length_append] at h4
  omega
 ·have hd : ∀ rs : List RulL, (∀ x ∈ rs, x ∈ R.list.map Rul.l) → ∃ ls : List (List UInt8), (∀ l ∈ ls, l ∈ B.bls) ∧ dsts rs = ls.flatten := by
   intro rs
   induction rs with
   | nil => exact fun _ => ⟨[], by simp, rfl⟩
   | cons x rs ih =>
    intro hm
    obtain ⟨ls, q1, q2⟩ := ih (fun y hy => hm y (List.mem_cons_of_mem _ hy))
    obtain ⟨r, hr, rfl⟩ := List.mem_map.1 (hm x (List.mem_cons_self ..))
    have hcons : dsts (r.l :: rs) = bl r.dst ++ dsts rs := by simp [dsts, Rul.l]
    rcases (hV.2.2.2.2.2 r hr).2.1 with e | e
    ·exact ⟨ls, q1, by rw [hcons, e, q2]; rfl⟩
    ·obtain ⟨ms, _, p1, p2⟩ := cat_iff.1 (cat_of_read e.1)
     exact ⟨ms ++ ls, fun l hl => (List.mem_append.1 hl).elim (p1 l) (q1 l), by rw [hcons, p2, q2, List.flatten_append]⟩
  obtain ⟨ls, q1, q2⟩ := hd (rs ++ [o]) (fun x hx => hc.mem x hx)
  rw [q2]
  by_cases hls : ls = []
  ·left; rw [hls]; rfl
  ·right
   rcases read_cat (told_of hV.2.2.1) (cat_iff.2 ⟨ls, hls, q1, rfl⟩) with h | h
   ·exact .inl h
   ·exact .inr h.1
/-- What a compiled machine answers for a short text. -/
theorem words_run {R : Ruls} {A B : Alph} {M : Mach} (hM : CompileOf R A M) (hV : Valid11 R A B) {x : List UInt8} (hx : x.length ≤ 16) {ts : List ByteArray} {f : Int} (h : RunsOf M x ts f) :
  (f = 0 ∨ f = 2) ∧ (ts ≠ [] → (readL A.bls x).err = 0) ∧ ∀ t ∈ ts, bl t = [] ∨ (readL B.bls (bl t)).err = 0 ∨ (readL B.bls (bl t)).err = 2 := by
 rcases h with ⟨n, _, _⟩ | ⟨_, ⟨n, _, _⟩ | ⟨_, h⟩⟩
 ·exact absurd ⟨compiled_valid hM hV.1, by omega⟩ n
 ·exact absurd n (compiled_plain hM hV.1.2.2.2.2.1)
 rcases h with ⟨_, rfl, rfl⟩ | ⟨_, rfl, _, hm⟩
 ·exact ⟨.inr rfl, fun h => absurd rfl h, fun t ht => by simp at ht⟩
 ·refine ⟨.inl rfl, fun hne => ?_, fun t ht => (result_words hM hV ((hm t).1 ht)).2⟩
  obtain ⟨t, ht⟩ := List.exists_mem_of_ne_nil ts hne
  rcases (result_words hM hV ((hm t).1 ht)).1 with h | ⟨_, h⟩
  ·exact h
  ·omega
theorem words_size {R : Ruls} {A B : Alph} {M : Mach} (hM : CompileOf R A M) (hV : Valid11 R A B) {x : List UInt8} (hx : x.length ≤ 16) {ts : List ByteArray} {f : Int} (h : RunsOf M x ts f) {t : ByteArray} (ht : t ∈ ts) : t.size ≤ 144 := by
 rcases h with ⟨_, rfl, _⟩ | ⟨_, ⟨_, rfl, _⟩ | ⟨_, ⟨_, rfl, _⟩ | ⟨_, _, _, hm⟩⟩⟩
 ·simp at ht
 ·simp at ht
 ·simp at ht
 ·have := compiled_size hM hV.1.2.2.2.2.1 ((hm t).1 ht)
  omega
/-- .. and for the empty one. -/
theorem words_none {R : Ruls} {A B : Alph} {M : Mach} (hM : CompileOf R A M) (hV : Valid11 R A B) {ts : List ByteArray} {f : Int} (h : RunsOf M [] ts f) : f = 0 ∧ ts = [] := by
 have hno : ∀ t, ¬ Result M [] t := fun t ht => by
  rcases (result_words hM hV ht).1 with h | ⟨_, h⟩
  ·simp [readL] at h
  ·simp at h
 have hf : ∀ z ∈ R.list.map Rul.l, z.fit := fun z hz => by obtain ⟨r, hr, rfl⟩ := List.mem_map.1 hz; exact rul_fit (hV.1.2.2.2.2.1 r hr)
 have h3 := statesFrom_ge (R.list.map Rul.l) 3
 have hl := leads_lt (R.list.map Rul.l) 3 (Nat.le_refl _)
 have hk := ranked_from (L := A.bls) (all := R.list.map Rul.l) (leads := leadsFrom 3 (R.list.map Rul.l)) (S := statesFrom 3 (R.list.map Rul.l)) (by omega) (fun z s hs => hl s (startsIn_mem hs)) (R.list.map Rul.l) (leadsFrom 3 (R.list.map Rul.l)) (statesFrom 3 (R.list.map Rul.l)) (Nat.le_refl _) hf hl
 have low : rkFrom (statesFrom 3 (R.list.map Rul.l)) (R.list.map Rul.l) 0 = 0 := rk_low _ _ _ (by omega) (fun z hz => (hf z hz).1)
 have hst : ∀ p, Cl M (fun p => p = ⟨M.start, ⟨#[]⟩⟩) p → p = ⟨M.start, ⟨#[]⟩⟩ := fun p hp => by
  induction hp with
  | base h => exact h
  | more _ hg ih =>
   subst ih
   obtain ⟨a, ha, e1, e2, _⟩ := hg
   have hr := (hk a ((hM.mem a).1 ha)).1.1
   have e1' : a.frm = M.start := e1
   rw [e1', hM.start] at hr
   exact absurd e2 (hr low)
 rcases h with ⟨n, _, _⟩ | ⟨_, ⟨n, _, _⟩ | ⟨_, h⟩⟩
 ·exact absurd ⟨compiled_valid hM hV.1, by simp⟩ n
 ·exact absurd n (compiled_plain hM hV.1.2.2.2.2.1)
 rcases h with ⟨⟨i, _, hn⟩, _, _⟩ | ⟨_, rfl, _, hm⟩
 ·refine absurd ⟨[⟨M.start, ⟨#[]⟩⟩], by simp, fun p hp => ?_⟩ hn
  rw [List.take_nil, Reach_nil] at hp
  rw [hst p hp]
  simp
 ·refine ⟨rfl, ?_⟩
  rcases ts with _ | ⟨t, ts⟩
  ·rfl
  ·exact absurd ((hm t).1 (List.mem_cons_self ..)) (hno t)
/-- What rules.Writings answers. -/
def WritOf (R : Ruls) (A B : Alph) (x : List UInt8) (ts : List ByteArray) (err : Int) : Prop :=
 (¬ (Valid11 R A B ∧ (readL A.bls x).err = 0) ∧ ts = [] ∧ err = 1) ∨
 ((Valid11 R A B ∧ (readL A.bls x).err = 0) ∧ ((ts = [] ∧ err = 2) ∨ (err = 0 ∧ SortedB ts ∧ ∀ t, t ∈ ts ↔ Writ A.bls (R.list.map Rul.l) (rdL A.bls x) (rdL A.bls x).length (bl t))))
theorem same_run {R : Ruls} {A B : Alph} {M : Mach} (hM : CompileOf R A M) (hV : Valid11 R A B) {x : List UInt8} (hx : x.length ≤ 16) {xs ys : List ByteArray} {f g : Int} (h : WritOf R A B x xs f) (k : RunsOf M x ys g) :
  f = 1 ∨ f = 2 ∨ (f = 0 ∧ g = 2) ∨ (f = 0 ∧ g = 0 ∧ xs = ys) := by
 rcases h with ⟨_, _, rfl⟩ | ⟨⟨_, hr⟩, ⟨_, rfl⟩ | ⟨rfl, hs, hm⟩⟩
 ·exact .inl rfl
 ·exact .inr (.inl rfl)
 rcases k with ⟨n, _, _⟩ | ⟨_, ⟨n, _, _⟩ | ⟨_, k⟩⟩
 ·exact absurd ⟨compiled_valid hM hV.1, by omega⟩ n
 ·exact absurd n (compiled_plain hM hV.1.2.2.2.2.1)
 rcases k with ⟨_, _, rfl⟩ | ⟨_, rfl, ks, km⟩
 ·exact .inr (.inr (.inl ⟨rfl, rfl⟩))
 ·exact .inr (.inr (.inr ⟨rfl, rfl, hs.ext ks (fun t => by rw [hm, km, result_writ hM hV hr])⟩))
end Go.Proofs.YtabocamjaecaaaaGreatDoor
