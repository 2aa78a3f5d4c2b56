/- A part of the proof: what the claim reaches. -/
import Derived.Test.YtmhdgddjeadjjaaGreatDoorP04
import Derived.Test.YtmhdgddjeadjjaaGreatDoorP06
namespace Go.Proofs.YtmhdgddjeadjjaaGreatDoor
open _root_.List Go.Lib _root_.Nat Go.World _root_.Int Go.Proofs.Tryz
variable {p:Addr}{B r:Nat}
section
open Go.RowKit Classical
open Go.MapKept (Stamped)
open Go.ChangeMaps (setBlock)
noncomputable def eh (k:Value):List MapEntry->Nat->Option (Nat×Value)
 |[],_=>none
 |e::es,i=>if k=e.key then some (i,e.val) else eh k es (i+1)
structure jh (P:Program)(k:TypeId)(Ok:Value->Prop):Prop where
 check:∀em (w:World) v,Ok v->(Instr.checkKey em 10000 k v).run P w= .ok () w
 bits:∀v,Ok v->Instr.sameBits 10000 v v=true
 find:∀(w:World) key (es:List MapEntry),Ok key->(∀x∈es,Ok x.key)->(Instr.findKey k key es).run P w= .ok (eh key es 0) w
theorem ku {k:Value}:∀{es:List MapEntry} {i:Nat},(∀x∈es,x.key≠k)->eh k es i=none
 |[],_,_=>rfl
 |e::es,i,h=>by
  rw[eh,if_neg (fun he=>h e (by simp) he.symm)];exact ku (fun x a=>h x (by simp[a]))
theorem kx {k:Value}:∀{es:List MapEntry} {i j:Nat} {e:MapEntry},es[j]?=some e->e.key=k->(es.map (·.key)).Nodup->eh k es i=some (i+j,e.val)
 |[],_,_,_,h,_,_=>by simp at h
 |a::es,i,j,e,h,hk,c=>by
  rw[eh];cases j with
  |zero=>simp at h;subst h;rw[if_pos hk.symm];rfl
  |succ j=>
   rw[getElem?_cons_succ]at h;have b:=nodup_cons.1 c;rw[if_neg,kx (i:=i+1) h hk b.2]
   .congr 2;omega
   .intro he;refine b.1 (mem_map.2 ⟨e,mem_of_getElem? h,hk.trans he⟩)
theorem sz {P:Program}{k:TypeId}{d:TypeDesc}(hk:P.underlying k=some d):jh P k (fun v=>MapKept.IsKey d v) where
 check:=fun em w v c=>MapKept.run_checkKey hk c em 9999
 bits:=fun v c=>MapKept.sameBits_self c _
 find:=fun w key es b f=>by
  refine MapKept.run_findKey hk ?_;have:∀(es:List MapEntry) (i:Nat),(∀x∈es,MapKept.IsKey d x.key)->Instr.findNow d key es i=some (eh key es i):=by
   intro es;induction es with
   |nil=>intro i _;rfl
   |cons e es l=>
    intro i h;obtain⟨r,g,a⟩:=MapKept.sameNow_of_keys b (h e (by simp));rw[Instr.findNow,g,eh];cases r with
    |true=>rw[if_pos (a.1 rfl)]
    |false=>
     rw[if_neg (fun he=>by have:=a.2 he;cases this)];exact l _ (fun x j=>h x (by simp[j]))
  exact this es 0 f
theorem iv {P:Program}{k:TypeId}{Ok:Value->Prop}{d:TypeDesc}(hk:P.underlying k=some d)(n:∀a b,Ok a->Ok b->Instr.sameNow d a b=none)
  (m:∀em (w:World) v,Ok v->(Instr.checkKey em 10000 k v).run P w= .ok () w)(l:∀v,Ok v->Instr.sameBits 10000 v v=true)
  (he:∀(w:World) a b,Ok a->Ok b->(Op.equal k a b).run P w= .ok (decide (a=b)) w):jh P k Ok where
 check:=m
 bits:=l
 find:=fun w key es c f=>by
  have j:∀(es:List MapEntry) (i:Nat),(∀x∈es,Ok x.key)->(Instr.findAsking k key es i).run P w= .ok (eh key es i) w:=by
   intro es;induction es with
   |nil=>intro i _;simp[Instr.findAsking,eh]
   |cons e es p=>
    intro i h;rw[Instr.findAsking,eh];simp only[Sem.run_bind,he w _ _ c (h e (by simp)),Result.andThen_ok];by_cases g:key=e.key
    .simp[g]
    .simp[g,p (i+1) (fun x o=>h x (by simp[o]))]
  rw[Instr.findKey];simp only[Sem.run_bind,run_underlying hk,Result.andThen_ok];cases es with
  |nil=>simp[Instr.findNow,eh]
  |cons e es=>
   rw[Instr.findNow,n _ _ c (f e (by simp))];exact j _ _ f
def ch (w:World)(b:Nat)(Ok:Value->Prop)(l:List (Value×Value)):Prop:=
 ∃es clock,w.heap[b]?=some (.map es clock)/\Stamped es clock/\(∀x∈es.toList,Ok x.key)/\es.toList.map (fun x=>(x.key,x.val))=l
section
variable {P : Program} {w : World} {b : Nat} {Ok : Value → Prop} {l : List (Value × Value)} {k e t : TypeId}
theorem ch.lt (h:ch w b Ok l):b<w.heap.size:=by
 obtain⟨es,clock,a,_⟩:=h;exact(Array.getElem?_eq_some_iff.1 a).1
theorem ch.block {w':World}(h:ch w b Ok l)(c:w'.heap[b]?=w.heap[b]?):ch w' b Ok l:=by
 obtain⟨es,clock,h1,a⟩:=h;exact⟨es,clock,c.trans h1,a⟩
theorem ch.below {w':World}(h:ch w b Ok l)(c:Below B w w')(a:b<B):ch w' b Ok l:=h.block (c.block b a)
theorem ch.grown {w':World}{row:Option Nat}(h:ch w b Ok l)(c:w.grownBy w' row)(a:some b≠row):ch w' b Ok l:=h.block (c.block b h.lt a)
theorem ch.alloc (h:ch w b Ok l)(o:Obj):ch (w.alloc o) b Ok l:=h.block ((MapKept.heap_alloc w o).2 b h.lt)
theorem ch.drew (h:ch w b Ok l):ch w.drew b Ok l:=h
theorem ch.drewN (h:ch w b Ok l)(n:Nat):ch (w.drewN n) b Ok l:=h
theorem ch.setCell (h:ch w b Ok l)(hp:p.block≠b)(v:Value):ch (w.setCell p v) b Ok l:=by
 exact h.block (RowKit.Below.heap_setCell _ _ _ _ (Ne.symm hp))
theorem ch.nodup (h:ch w b Ok l):(l.map (·.1)).Nodup:=by
 obtain⟨es,clock,_,a,_,rfl⟩:=h;have:=a.2.2;simpa [map_map,Function.comp_def]using this
theorem ch.ok (h:ch w b Ok l):∀p∈l,Ok p.1:=by
 obtain⟨es,clock,_,_,hk,rfl⟩:=h;intro p hp;obtain⟨x,a,rfl⟩:=mem_map.1 hp;exact hk x a
theorem ch.made (w:World)(Ok:Value->Prop):ch (w.alloc (.map #[] 0)) w.heap.size Ok []:=
 ⟨#[],0,heap_alloc_new w _,MapKept.stamped_empty 0,by simp,rfl⟩
theorem ch.aA (h:ch w b Ok l)(K:jh P k Ok)(i:P.underlying t=some (.map k e)){z:Value}(m:(zeroValue e).run P w= .ok z w){key:Value}(a:Ok key)(d:∀p∈l,p.1≠key)(c:Bool):
  (Instr.lookup t (.map (some b)) key c).run P w= .ok (if c then .tuple #[z,.bool false] else z) w:=by
 obtain⟨es,clock,f,n,hk,rfl⟩:=h;have g:eh key es.toList 0=none:=ku (fun x j=>d (x.key,x.val) (mem_map.2 ⟨x,j,rfl⟩));simp[Instr.lookup,run_underlying i,MapKept.run_getObj_map f,K.check _ w key a,K.find w key es.toList a hk,g,m]
theorem ch.ar (h:ch w b Ok l)(K:jh P k Ok)(n:P.underlying t=some (.map k e)){key v:Value}(d:(key,v)∈l)(c:Bool):
  (Instr.lookup t (.map (some b)) key c).run P w= .ok (if c then .tuple #[v,.bool true] else v) w:=by
 have a:Ok key:=h.ok _ d;obtain⟨es,clock,f,m,hk,rfl⟩:=h;obtain⟨x,p,he⟩:=mem_map.1 d;obtain⟨j,i⟩:=getElem?_of_mem p;have g:eh key es.toList 0=some (0+j,x.val):=kx i (congrArg Prod.fst he) m.2.2;have o:x.val=v:=congrArg Prod.snd he;simp[Instr.lookup,run_underlying n,MapKept.run_getObj_map f,K.check _ w key a,K.find w key es.toList a hk,g,o]
theorem jD (w:World)(b:Nat)(o:Obj):w.grownBy (setBlock w b o) (some b):=
 ⟨rfl,rfl,rfl,by simp[setBlock],fun i _ a=>by simp only[setBlock];rw[Array.getElem?_setIfInBounds_ne];intro e;exact a (by rw[e])⟩
theorem ch.aB (h:ch w b Ok l)(K:jh P k Ok)(n:P.underlying t=some (.map k e)){key:Value}(a:Ok key)(i:∀p∈l,p.1≠key)(v:Value):
  ∃w',(Instr.mapUpdate t (.map (some b)) key v).run P w= .ok () w'/\ch w' b Ok (l++[(key,v)])/\w.grownBy w' (some b)/\w'.heap.size=w.heap.size:=by
 obtain⟨es,clock,f,m,hk,rfl⟩:=h;have d:∀x∈es.toList,x.key≠key:=fun x c=>i (x.key,x.val) (mem_map.2 ⟨x,c,rfl⟩);have j:eh key es.toList 0=none:=ku d;have g:=(Array.getElem?_eq_some_iff.1 f).1;refine⟨setBlock w b (.map (es.push (MapEntry.mk key v clock)) (clock+1)),?_,⟨es.push (MapEntry.mk key v clock),clock+1,by simp[setBlock,g],MapKept.stamped_push m d,?_,by simp⟩,jD _ _ _,by simp[setBlock]⟩
 .simp[Instr.mapUpdate,run_underlying n,MapKept.run_getObj_map f,K.check _ w key a,K.find w key es.toList a hk,j,MapKept.run_setObj_map _ f,setBlock]
 .intro x c;simp at c;rcases c with c |rfl
  .exact hk x (by simpa using c)
  .exact a
theorem mu:∀(es:List MapEntry) (j:Nat) (x:MapEntry) (v:Value),es[j]?=some x->(es.map (·.key)).Nodup->
  (es.modify j (fun e=>MapEntry.mk x.key v e.born)).map (fun e=>(e.key,e.val))=(es.map (fun e=>(e.key,e.val))).map (fun p=>if p.1=x.key then (x.key,v) else p)
 |[],_,_,_,h,_=>by simp at h
 |a::es,0,x,v,h,c=>by
  simp at h;subst h;have b:=nodup_cons.1 c;simp only[modify_zero_cons,map_cons,if_true,map_map];congr 1;refine map_congr_left (fun y d=>?_);simp only[Function.comp_apply];rw[if_neg (fun he=>b.1 (mem_map.2 ⟨y,d,he⟩))]
 |a::es,j+1,x,v,h,c=>by
  rw[getElem?_cons_succ]at h;have b:=nodup_cons.1 c;simp only[modify_succ_cons,map_cons];rw[mu es j x v h b.2];congr 1;rw[if_neg (fun he=>b.1 (mem_map.2 ⟨x,mem_of_getElem? h,he.symm⟩))]
theorem ch.aK (h:ch w b Ok l)(K:jh P k Ok)(D:P.underlying t=some (.map k e)){key v0:Value}(g:(key,v0)∈l)(v:Value):
  ∃w',(Instr.mapUpdate t (.map (some b)) key v).run P w= .ok () w'/\ch w' b Ok (l.map (fun p=>if p.1=key then (key,v) else p))/\w.grownBy w' (some b)/\w'.heap.size=w.heap.size:=by
 have c:Ok key:=h.ok _ g;obtain⟨es,clock,o,r,hk,rfl⟩:=h;obtain⟨x,A,he⟩:=mem_map.1 g;obtain⟨j,q⟩:=getElem?_of_mem A;have f:x.key=key:=congrArg Prod.fst he;have C:eh key es.toList 0=some (0+j,x.val):=kx q f r.2.2;have s:=(Array.getElem?_eq_some_iff.1 o).1;have m:es[j]?=some x:=by rw[<-Array.getElem?_toList];exact q
 refine⟨setBlock w b (.map (es.modify j fun e=>MapEntry.mk x.key v e.born) clock),?_,⟨es.modify j fun e=>MapEntry.mk x.key v e.born,clock,by simp[setBlock,s],MapKept.stamped_modify r j _ (fun _ _=>rfl) (fun e _ he=>by rw[m]at he;cases he;rfl),?_,?_⟩,jD _ _ _,by simp[setBlock]⟩
 .have u:(Instr.keyThatStays key key).run P w= .ok key w:=by simp[Instr.keyThatStays,K.bits key c]
  simp[Instr.mapUpdate,run_underlying D,MapKept.run_getObj_map o,K.check _ w key c,K.find w key es.toList c hk,C,m,f,u,MapKept.run_setObj_map _ o,setBlock]
 .intro y B;simp only[Array.toList_modify]at B;obtain⟨i,a⟩:=getElem?_of_mem B;rw[getElem?_modify]at a;cases d:es.toList[i]? with
  |none=>simp[d]at a
  |some z=>
   rw[d]at a;by_cases n:j=i
   .simp[n]at a;rw[<-a];exact hk x A
   .simp[n]at a;rw[<-a];exact hk z (mem_of_getElem? d)
 .simp only[Array.toList_modify];rw[mu _ _ _ _ q r.2.2,f]
def cx (w:World)(b r:Nat)(Ok:Value->Prop)(l left:List (Value×Value)):Prop:=
 ∃es clock since seen c0,w.heap[b]?=some (.map es clock)/\Stamped es clock/\(∀x∈es.toList,Ok x.key)/\es.toList.map (fun x=>(x.key,x.val))=l/\
  w.heap[r]?=some (.mapIter (some b) since seen c0)/\(∀x∈es.toList,x.born<since)/\since<=c0/\since<=clock/\(leftOf es seen).toList.map (fun x=>(x.key,x.val))=left
theorem cx.isMap {left:List (Value×Value)}(h:cx w b r Ok l left):ch w b Ok l:=by
 obtain⟨es,clock,_,_,_,h1,a,c,d,_⟩:=h;exact⟨es,clock,h1,a,c,d⟩
theorem cx.lt {left:List (Value×Value)}(h:cx w b r Ok l left):r<w.heap.size:=by
 obtain⟨es,clock,_,_,_,_,_,_,_,h1,_⟩:=h;exact(Array.getElem?_eq_some_iff.1 h1).1
theorem cx.blocks {w':World}{left:List (Value×Value)}(h:cx w b r Ok l left)(g:w'.heap[b]?=w.heap[b]?)(i:w'.heap[r]?=w.heap[r]?):cx w' b r Ok l left:=by
 obtain⟨es,clock,since,seen,c0,h1,a,c,d,e,f⟩:=h;exact⟨es,clock,since,seen,c0,g.trans h1,a,c,d,i.trans e,f⟩
theorem cx.grown {w':World}{left:List (Value×Value)}{row:Option Nat}(h:cx w b r Ok l left)(a:w.grownBy w' row)(c:some b≠row)(d:some r≠row):cx w' b r Ok l left:=
 h.blocks (a.block b h.isMap.lt c) (a.block r h.lt d)
theorem cx.below {w':World}{left:List (Value×Value)}(h:cx w b r Ok l left)(a:Below B w w')(c:b<B)(d:r<B):cx w' b r Ok l left:=
 h.blocks (a.block b c) (a.block r d)
theorem cx.setCell {left:List (Value×Value)}(h:cx w b r Ok l left)(hp:p.block≠b)(a:p.block≠r)(v:Value):cx (w.setCell p v) b r Ok l left:=by
 exact h.blocks (RowKit.Below.heap_setCell _ _ _ _ (Ne.symm hp)) (RowKit.Below.heap_setCell _ _ _ _ (Ne.symm a))
theorem ch.range (h:ch w b Ok l)(f:P.underlying t=some (.map k e)):
  ∃o,(Instr.range t (.map (some b))).run P w= .ok (.pointer (some ⟨w.heap.size,0,none⟩)) (w.alloc o)/\cx (w.alloc o) b w.heap.size Ok l l:=by
 have c:=h.lt;obtain⟨es,clock,a,d,hk,rfl⟩:=h;refine⟨_,run_range_map w t k e b es clock f a,⟨es,clock,clock,#[],clock,((MapKept.heap_alloc w _).2 b c).trans a,d,hk,rfl,heap_alloc_new w _,d.1,bW,bW,?_⟩⟩;simp only[leftOf];rw[Array.filter_eq_self.2 (by simp)]
theorem cx.next {left:List (Value×Value)}(h:cx w b r Ok l left)(ty:TypeId):
  (left=[]/\(Instr.next (.pointer (some ⟨r,0,none⟩)) false ty).run P w= .ok (.tuple #[.bool false]) w)\/
  ∃A p B w',left=A++p::B/\(Instr.next (.pointer (some ⟨r,0,none⟩)) false ty).run P w= .ok (.tuple #[.bool true,p.1,p.2]) w'/\cx w' b r Ok l (A++B)/\
   w.grownBy w' (some r)/\w'.heap.size=w.heap.size/\(Instr.entry (.pointer (some ⟨r,0,none⟩))).run P w'= .ok (.tuple #[p.1,p.2]) w':=by
 obtain⟨es,clock,since,seen,c0,j,u,hk,I,s,hold,F,o,rfl⟩:=h;rcases run_next_at (P:=P) w ty r b since c0 seen es clock s j hold F with ⟨G,a⟩ |⟨x,v,m,c,a⟩
 .left;refine⟨?_,a⟩;rw[Array.eq_empty_of_size_eq_zero G];rfl
 .right;have E:m.heap[r]?=some (.mapIter (some b) since seen c0):=by rcases c with rfl |rfl<;>exact s
  have D:m.heap[b]?=some (.map es clock):=by rcases c with rfl |rfl<;>exact j
  have g:b≠r:=fun e=>by rw[e,s]at j;cases j
  have t:=(Array.getElem?_eq_some_iff.1 E).1;have z:x∈es.toList:=by
   simp[leftOf]at v⊢;exact v.1
  obtain⟨A,B,d⟩:=append_of_mem v;have f:((leftOf es seen).toList.map (·.born)).Nodup:=by
   have:(leftOf es seen).toList.Sublist es.toList:=by simp[leftOf]
   exact(this.map _).nodup u.2.1
  have k:(leftOf es (seen.push x.born)).toList=A++B:=by
   have:(leftOf es (seen.push x.born)).toList=(leftOf es seen).toList.filter (fun e=>e.born != x.born):=by
    simp only[leftOf,Array.toList_filter,filter_filter];refine filter_congr (fun e _=>?_);rw[Bool.eq_iff_iff];simp[and_comm]
   rw[this,d,filter_append,filter_cons_of_neg (by simp)];rw[d]at f;simp only[map_append,map_cons]at f;have h1:=nodup_append.1 f;have H:=nodup_cons.1 h1.2.1;rw[filter_eq_self.2,filter_eq_self.2]
   .intro y C;simp;intro e;exact H.1 (mem_map.2 ⟨y,C,e⟩)
   .intro y C;simp;intro e;exact h1.2.2 _ (mem_map.2 ⟨y,C,rfl⟩) _ (by simp) e
  have q:(setBlock m r (.mapIter (some b) since (seen.push x.born) clock)).heap[r]?=some (.mapIter (some b) since (seen.push x.born) clock):=by simp[setBlock,t]
  have n:(setBlock m r (.mapIter (some b) since (seen.push x.born) clock)).heap[b]?=some (.map es clock):=by
   simp only[setBlock];rw[Array.getElem?_setIfInBounds_ne (Ne.symm g)];exact D
  refine⟨A.map (fun x=>(x.key,x.val)),(x.key,x.val),B.map (fun x=>(x.key,x.val)),_,by rw[d];simp,a,⟨es,clock,since,seen.push x.born,clock,n,u,hk,I,q,hold,o,o,by rw[k];simp⟩,?_,?_,?_⟩
  .rcases c with rfl |rfl
   .exact jD _ _ _
   .exact⟨rfl,rfl,rfl,by simp[setBlock],fun i _ g=>by simp only[setBlock];rw[Array.getElem?_setIfInBounds_ne];rfl;intro e;exact g (by rw[e])⟩
  .rcases c with rfl |rfl<;>simp[setBlock]
  .exact run_entry_at _ r b since seen es clock x q n z u.2.1
end
def cy (w:World)(b:Nat)(Ok:Value->Prop)(ks:List Value):Prop:=ch w b Ok (ks.map (fun v=>(v,.bool true)))
noncomputable def jQ (ks:List Value)(v:Value):List Value:=if v∈ks then ks else ks++[v]
section
variable {P : Program} {w : World} {b : Nat} {Ok : Value → Prop} {ks : List Value} {k e t : TypeId}
theorem cy.nodup (h:cy w b Ok ks):ks.Nodup:=by have:=ch.nodup h;simpa [map_map,Function.comp_def]using this
theorem cy.made (w:World)(Ok:Value->Prop):cy (w.alloc (.map #[] 0)) w.heap.size Ok []:=ch.made w Ok
theorem cy.look (h:cy w b Ok ks)(K:jh P k Ok)(c:P.underlying t=some (.map k e))(f:(zeroValue e).run P w= .ok (.bool false) w){key:Value}(a:Ok key):
  (Instr.lookup t (.map (some b)) key false).run P w= .ok (.bool (decide (key∈ks))) w:=by
 by_cases hm:key∈ks
 .rw[ch.ar h K c (key:=key) (v:= .bool true) (mem_map.2 ⟨key,hm,rfl⟩) false];simp[hm]
 .rw[ch.aA h K c f a (fun p hp he=>by
   obtain⟨v,d,rfl⟩:=mem_map.1 hp;exact hm (he▸d)) false]
  simp[hm]
theorem cy.put (h:cy w b Ok ks)(K:jh P k Ok)(f:P.underlying t=some (.map k e)){key:Value}(d:Ok key):
  ∃w',(Instr.mapUpdate t (.map (some b)) key (.bool true)).run P w= .ok () w'/\cy w' b Ok (jQ ks key)/\w.grownBy w' (some b)/\w'.heap.size=w.heap.size:=by
 by_cases hm:key∈ks
 .obtain⟨w',h1,a,c⟩:=ch.aK h K f (key:=key) (v0:= .bool true) (mem_map.2 ⟨key,hm,rfl⟩) (.bool true);refine⟨w',h1,?_,c⟩;rw[jQ,if_pos hm];have e:ks.map (fun v=>(v,Value.bool true))=(ks.map (fun v=>(v,Value.bool true))).map (fun p=>if p.1=key then (key,.bool true) else p):=by
   rw[map_map];refine map_congr_left (fun y _=>?_);simp only[Function.comp_apply];split
   .rename_i he;rw[he]
   .rfl
  unfold cy;rw[e];exact a
 .obtain⟨w',h1,a,c⟩:=ch.aB h K f d (fun p hp he=>by
   obtain⟨v,g,rfl⟩:=mem_map.1 hp;exact hm (he▸g)) (.bool true)
  refine⟨w',h1,?_,c⟩;rw[jQ,if_neg hm];unfold cy;rw[map_append];exact a
end
end
section
open Go.RowKit Classical
def dR (v:Value):Prop:=MapKept.IsKey .string v
def jO (v:Value):Prop:=MapKept.IsKey (.int .i64) v
theorem oh (s:ByteArray):dR (.string s):=trivial
theorem DH (x:Int):jO (.int .i64 x):=rfl
theorem iP:jh prog 9 dR:=sz underlying9
theorem Br:jh prog 3 jO:=sz underlying3
def fA (x:Rul):Value:= .agg #[.string x.src,.string x.dst,.string x.nxt,.bool x.fin]
def nu (v:Value):Prop:=∃x,v=fA x
theorem uC {x y:Rul}(h:fA x=fA y):x=y:=by
 cases x;cases y;simpa [fA]using h
theorem Dr {x y:Rul}:fA x=fA y↔x=y:=⟨uC,fun h=>by rw[h]⟩
theorem mI (em:Bool)(w:World)(s:ByteArray):(Instr.checkKey em 9999 9 (.string s)).run prog w= .ok () w:=MapKept.run_checkKey (d:= .string) (k:= .string s) underlying9 trivial em 9998
theorem mH (em:Bool)(w:World)(x:Int):(Instr.checkKey em 9999 3 (.int .i64 x)).run prog w= .ok () w:=MapKept.run_checkKey (d:= .int .i64) (k:= .int .i64 x) underlying3 rfl em 9998
theorem zy (em:Bool)(w:World)(x:Bool):(Instr.checkKey em 9999 4 (.bool x)).run prog w= .ok () w:=MapKept.run_checkKey (d:= .bool) (k:= .bool x) underlying4 trivial em 9998
theorem iL {T:TypeId}{xs a:Array Value}{w:World}{p:Prop}[Decidable p](h:(binOp .eql T (.agg xs) (.agg a)).run prog w= .ok (.bool (decide p)) w):
  (Op.equal T (.agg xs) (.agg a)).run prog w= .ok (decide p) w:=by
 rw[run_eql_struct]at h;unfold Op.equal Op.maxDepth;generalize (Op.equalIn 10000 T (.agg xs) (.agg a)).run prog w=r at h⊢;cases r with
 |ok b c=>simp[Result.andThen]at h;rw[<-h.2];congr 1;simp[<-h.1]
 |halt x c=>simp[Result.andThen]at h
set_option maxRecDepth 100000
theorem yT:jh prog 88 nu:=by
 have b:prog.underlying 88=some (.struct (prog.fieldsOf 88)):=by kernel_rfl
 refine iv b ?_ ?_ ?_ ?_
 .rintro _ _ ⟨x,rfl⟩ ⟨y,rfl⟩;rfl
 .rintro em w _ ⟨x,rfl⟩;unfold fA;rw[show(10000:Nat)=9998+1+1 from rfl,Instr.checkKey];simp only[Sem.run_bind,run_underlying underlying88,Result.andThen_ok];rw[<-Array.forIn_toList];go_simp;simp only[mI,zy,Result.andThen_ok]
 .rintro _ ⟨x,rfl⟩;have c:=fun a:ByteArray=>(MapKept.bytes_beq a a).2 rfl;simp[fA,Instr.sameBits,c]
 .rintro w _ _ ⟨x,rfl⟩ ⟨y,rfl⟩;have:=iL (wu x y w);rw[show(Op.equal 88 (fA x) (fA y)).run prog w= .ok (decide (x=y)) w from this];congr 1;rw[decide_eq_decide,Dr]
def dT (x:Arc):Value:= .agg #[.int .i64 x.frm,.int .i64 x.inp,.int .i64 x.out,.int .i64 x.to]
def ev (v:Value):Prop:=∃x,v=dT x
theorem vK {x y:Arc}(h:dT x=dT y):x=y:=by
 cases x;cases y;simpa [dT]using h
theorem DS {x y:Arc}:dT x=dT y↔x=y:=⟨vK,fun h=>by rw[h]⟩
theorem EH:jh prog 171 ev:=by
 have b:prog.underlying 171=some (.struct (prog.fieldsOf 171)):=by kernel_rfl
 refine iv b ?_ ?_ ?_ ?_
 .rintro _ _ ⟨x,rfl⟩ ⟨y,rfl⟩;rfl
 .rintro em w _ ⟨x,rfl⟩;unfold dT;rw[show(10000:Nat)=9998+1+1 from rfl,Instr.checkKey];simp only[Sem.run_bind,run_underlying underlying171,Result.andThen_ok];rw[<-Array.forIn_toList];go_simp;simp only[mH,Result.andThen_ok]
 .rintro _ ⟨x,rfl⟩;have c:=fun a:ByteArray=>(MapKept.bytes_beq a a).2 rfl;simp[dT,Instr.sameBits]
 .rintro w _ _ ⟨x,rfl⟩ ⟨y,rfl⟩;have:=iL (tv x y w);rw[show(Op.equal 171 (dT x) (dT y)).run prog w= .ok (decide (x=y)) w from this];congr 1;rw[decide_eq_decide,DS]
structure Plc where
 st:Int
 tx:ByteArray
def eM (x:Plc):Value:= .agg #[.int .i64 x.st,.string x.tx]
def fM (v:Value):Prop:=∃x,v=eM x
theorem xv {x y:Plc}(h:eM x=eM y):x=y:=by
 cases x;cases y;simpa [eM]using h
theorem Ef {x y:Plc}:eM x=eM y↔x=y:=⟨xv,fun h=>by rw[h]⟩
theorem DZ (x y:Plc)(w:World):(binOp .eql 159 (.agg #[.int .i64 x.st,.string x.tx]) (.agg #[.int .i64 y.st,.string y.tx])).run prog w= .ok (.bool (decide (x=y))) w:=by
 have f:prog.underlying 159=some (.struct (prog.fieldsOf 159)):=by kernel_rfl
 have hp:prog.stoodInHeld 159=false:=by kernel_rfl
 rw[run_eql_struct,show(10000:Nat)=9999+1 from rfl,run_equalIn_agg w 9999 159 _ _ f hp];simp only[Program.fieldsOf,underlying159];go_simp;have g:∀a b:ByteArray,a.toList=b.toList↔a=b:=fun a b=>by
  rw[ByteArray.toList_eq,ByteArray.toList_eq];exact⟨fun h=>cY h,fun h=>by rw[h]⟩
 obtain⟨a,b⟩:=x;obtain⟨c,d⟩:=y;simp only[Plc.mk.injEq];simp only[g];by_cases h1:a=c<;>by_cases e:b=d<;>simp[h1,e]
theorem sy:jh prog 159 fM:=by
 have b:prog.underlying 159=some (.struct (prog.fieldsOf 159)):=by kernel_rfl
 refine iv b ?_ ?_ ?_ ?_
 .rintro _ _ ⟨x,rfl⟩ ⟨y,rfl⟩;rfl
 .rintro em w _ ⟨x,rfl⟩;unfold eM;rw[show(10000:Nat)=9998+1+1 from rfl,Instr.checkKey];simp only[Sem.run_bind,run_underlying underlying159,Result.andThen_ok];rw[<-Array.forIn_toList];go_simp;simp only[mI,mH,Result.andThen_ok]
 .rintro _ ⟨x,rfl⟩;have c:=fun a:ByteArray=>(MapKept.bytes_beq a a).2 rfl;simp[eM,Instr.sameBits,c]
 .rintro w _ _ ⟨x,rfl⟩ ⟨y,rfl⟩;have:=iL (DZ x y w);rw[show(Op.equal 159 (eM x) (eM y)).run prog w= .ok (decide (x=y)) w from this];congr 1;rw[decide_eq_decide,Ef]
structure Chg (S:Nat->Prop)(w w':World):Prop where
 os:w'.os=w.os
 tape:w'.tape=w.tape
 output:w'.output=w.output
 size:w.heap.size<=w'.heap.size
 block:∀k,k<w.heap.size->¬S k->w'.heap[k]?=w.heap[k]?
section
variable {S : Nat → Prop} {w w' w'' : World}
theorem Chg.refl (S:Nat->Prop)(w:World):Chg S w w:=⟨rfl,rfl,rfl,bW,fun _ _ _=>rfl⟩
theorem Chg.trans (h:Chg S w w')(k:Chg S w' w''):Chg S w w'':=
 ⟨k.os.trans h.os,k.tape.trans h.tape,k.output.trans h.output,Nat.le_trans h.size k.size,fun i b a=>(k.block i (Nat.lt_of_lt_of_le b h.size) a).trans (h.block i b a)⟩
theorem Chg.mono {a:Nat->Prop}(h:Chg S w w')(b:∀k,S k->a k):Chg a w w':=⟨h.os,h.tape,h.output,h.size,fun k hk c=>h.block k hk (fun d=>c (b k d))⟩
theorem Chg.ai (S:Nat->Prop)(h:Below w.heap.size w w'):Chg S w w':=⟨h.os,h.tape,h.output,h.size,fun k hk _=>h.block k hk⟩
theorem Chg.ax {row:Option Nat}(h:w.grownBy w' row)(b:∀r,row=some r->S r\/w.heap.size<=r):Chg S w w':=
 ⟨h.os,h.tape,h.output,h.size,fun k hk a=>h.block k hk (fun e=>(b k e.symm).elim a (fun h=>by omega))⟩
theorem Chg.setCell (w:World)(hp:S p.block\/w.heap.size<=p.block)(v:Value):Chg S w (w.setCell p v):=
 ⟨rfl,rfl,rfl,by simp,fun k hk a=>Below.heap_setCell w p v k (fun e=>by subst e;exact hp.elim a (fun h=>by omega))⟩
theorem Chg.alloc (S:Nat->Prop)(w:World)(o:Obj):Chg S w (w.alloc o):= .ai S ((Below.refl _ w).alloc bW o)
theorem Chg.drewN (S:Nat->Prop)(w:World)(n:Nat):Chg S w (w.drewN n):=⟨rfl,rfl,rfl,bW,fun _ _ _=>rfl⟩
theorem Chg.below (h:Chg S w w')(a:∀k,S k->B<=k)(c:B<=w.heap.size):Below B w w':=
 ⟨h.os,h.tape,h.output,h.size,fun k hk=>h.block k (by omega) (fun b=>by have:=a k b;omega)⟩
theorem Blk.chg {b:Nat}{cs:Array Value}{t:TypeId}(h:Blk w b cs t)(c:Chg S w w')(a:¬S b):Blk w' b cs t:=(c.block b h.lt a).trans h
theorem ch.chg {b:Nat}{Ok:Value->Prop}{l:List (Value×Value)}(h:ch w b Ok l)(c:Chg S w w')(a:¬S b):ch w' b Ok l:=h.block (c.block b h.lt a)
theorem fj {base:Nat}{e:TypeId}{size n:Nat}{v:Value}{xs:List Value}(h:w.ownsRow base e size v n xs)(f:Chg S w w')(c:∀g,v.ownBlock=some g->¬S g):w'.ownsRow base e size v n xs:=by
 obtain⟨b,h1⟩:=h;rcases h1 with ⟨rfl,rfl⟩ |⟨g,cap,cur,rfl,d,a,i,j,k,l⟩
 .exact⟨b,.inl ⟨rfl,rfl⟩⟩
 .exact⟨b,.inr ⟨g,cap,cur,rfl,d,(f.block g (Array.getElem?_eq_some_iff.1 a).1 (c g rfl)).trans a,i,j,k,l⟩⟩
end
set_option maxHeartbeats 2000000
theorem qX (A:cr)(N:A.bls.Nodup)(C:∀l∈A.bls,1<=l.length/\l.length<=3)(s:ByteArray)(o:Nat)(ho:o<=s.size)(_hs:s.size<=maxLen)(v:Value)(w:World)(h:cH w w.heap.size v A):
  Calls prog 145 #[v,.string s,.int .i64 o] w fun e w'=>e= .returned (.int .i64 (atI A.bls ((bl s).drop o)))/\Below w.heap.size w w':=by
 obtain⟨L,lc,Q,R,rfl,P,F,G,U,O,X⟩:=h;unfold maxLen at _hs F G P;go_enter func145,ntmps145;go_wp2_with fail;obtain⟨n,f⟩:∃n:World,n=(w.alloc (.cells #[.string A.name,.slice L A.letters.length lc,.slice Q A.small.length R] 83)):=⟨_,rfl⟩;rw[<-f];have t:=bP (lr s o);go_loopw [7,8] (fun out i wr=>∃(k:Nat) (q:Int),k<=A.letters.length/\i= .int .i64 k/\out= .int .i64 q/\iY A.bls ((bl s).drop o) k q/\Below n.heap.size n wr) (fun _ i _=>A.letters.length-(intOf i).toNat);case atStart=>exact⟨0, -1,zero_le _,rfl,rfl,.inl ⟨rfl,by simp⟩,bX⟩
 case round=>
  obtain⟨k,q,hk,rfl,rfl,hinv,a⟩:=hrel;have I:n.heap.size=w.heap.size+1:=by rw[f];simp
  have c1:wr.cell? ⟨w.heap.size,1,none⟩=some (.slice L A.letters.length lc):=(a.cell (p:=⟨w.heap.size,1,none⟩) (by simp[I])).trans (by rw[f];simp);have J:Below w.heap.size w n:=by rw[f];exact bX.alloc bW _
  have B:Below w.heap.size w wr:=J.trans (a.mono (by omega));have H:=bP hinv;clear hinv;by_cases x:k<A.letters.length
  .obtain⟨b,off,rfl,M,D⟩:=O.strs (by omega);have c:∀i (E:i<A.letters.length),wr.cell? ⟨b,off+i,none⟩=some (.string A.letters[i]):=fun i E=>(B.cell (p:=⟨b,off+i,none⟩) M).trans (D i E);have c3:=c k x;clear D;have r:=bP (ny x);by_cases hp:bl A.letters[k]<+:bl (s.extract o s.size)
   .have z:bl A.letters[k]<+:(bl s).drop o:=by rw[<-t.out];exact hp
    rcases H.out with ⟨rfl,y⟩ |⟨j,l,Z,rfl,u,V,g⟩
    .have T:=bP y;clear y c;go_wp2_with fail;go_quiet ((go_at_call 140;exact Calls.quiet_of_same (jU _ _ hp _)));go_wp2;refine⟨⟨k+1,k,by omega,by go_num,rfl,H.out.take r.out z (fun j m e _=>by omega),Go.below_drewN a _⟩,by simp[intOf];omega⟩
    .have d:j<A.letters.length:=by omega
     have c4:=c j d;have Y:=bP g;have S:=bP u;clear g u c;go_wp2_with fail;go_quiet ((go_at_call 140;exact Calls.quiet_of_same (jU _ _ hp _)));go_wp2
     .have h1:(j:Int)<0\/A.letters[j].size<A.letters[k].size:=by assumption
      refine⟨⟨k+1,k,by omega,by go_num,rfl,H.out.take r.out z (fun i m e hm=>?_),Go.below_drewN a _⟩,by simp[intOf];omega⟩;obtain rfl:j=i:=by omega
      rw[ny d]at hm;obtain rfl:=Option.some.inj hm;rw[b9,b9];omega
     .have h1:(0:Int)<=j/\¬A.letters[j].size<A.letters[k].size:=by assumption
      refine⟨⟨k+1,j,by omega,by go_num,rfl,H.out.keep r.out (ny d) (by rw[b9,b9];omega),Go.below_drewN a _⟩,by simp[intOf];omega⟩
   .clear c;go_wp2_with fail;go_quiet ((go_at_call 140;exact Calls.quiet_of_same (mU _ _ hp _)));go_wp2;refine⟨⟨k+1,q,by omega,by go_num,rfl,H.out.skip r.out (by rwa [t.out]at hp),Go.below_drewN a _⟩,by simp[intOf];omega⟩
  .go_wp2;go_ret;obtain rfl:k=A.letters.length:=by omega
   exact⟨dL (iY.done N C (by rw[r6];exact H.out)),B⟩
theorem ij (A:cr)(T:A.bls.Nodup)(t:∀l∈A.bls,1<=l.length/\l.length<=3)(s:ByteArray)(hs:s.size<=maxLen)(v:Value)(w:World)(h:cH w w.heap.size v A):
  Calls prog 86 #[v,.string s] w fun e w'=>
   ∃u,e= .returned (.tuple #[u,.int .i64 (cB A.bls (bl s)).err,.int .i64 (cB A.bls (bl s)).off])/\
    w'.ownsRow w.heap.size 3 1 u (cB A.bls (bl s)).letters.length (nums (cB A.bls (bl s)).letters)/\Below w.heap.size w w':=by
 have hA:=h;obtain⟨la,lc,sa,sc,rfl,hn,ab,I,aF,hl,aG⟩:=h;have J:=hs;unfold maxLen at hs ab I hn;obtain⟨i0,hi,aj,ak,al⟩:=info_parts kh;have F:∀o,o<s.size->(bl s).drop o≠[]:=fun o O e=>by
  have:=congrArg length e;rw[length_drop,b9]at this;simp at this;omega
 by_cases S:s.size=0
 .have Y:s.toList=[]:=by rw[ByteArray.toList_eq];exact eq_nil_of_length_eq_zero (by simpa using S)
  have P:bl s=[]:=eq_nil_of_length_eq_zero (by rw[b9];exact S);have hr:cB A.bls (bl s)=⟨[],6,0⟩:=by rw[P];rfl
  rw[hr];clear hr P;go_enter func86,ntmps86;go_wp2;go_ret3;exact⟨_,rfl,ownsRow_nil _ _ _ _,bX.alloc bW _⟩
 have Y:s.toList.isEmpty=false:=by
  rw[ByteArray.toList_eq];cases e:s.data.toList with
  |nil=>exact absurd (by simpa using congrArg length e) S
  |cons=>rfl
 go_enter func86,ntmps86;go_wp2_with fail;obtain⟨m,g⟩:∃m:World,m=(w.alloc (.cells #[.string A.name,.slice la A.letters.length lc,.slice sa A.small.length sc] 83)):=⟨_,rfl⟩;rw[<-g];have ai:Below w.heap.size w m:=by rw[g];exact bX.alloc bW _
 have B:m.heap.size=w.heap.size+1:=by rw[g];simp
 go_loopw [7,8] (fun out i wr=>∃(o:Nat) (acc:List Int),o<=s.size/\acc.length<=24/\i= .int .i64 o/\cB A.bls (bl s)=dc A.bls (24-acc.length) ((bl s).drop o) o acc/\
   wr.ownsRow m.heap.size 3 1 out acc.length (nums acc)/\Below m.heap.size m wr) (fun _ i _=>s.size-(intOf i).toNat)
 case atStart=>exact⟨0,[],zero_le _,by simp,rfl,by simp[cB,show bl s≠[]from by simpa using F 0 (by omega)],ownsRow_nil _ _ _ _,bX⟩
 case round=>
  obtain⟨o,acc,O,ax,rfl,Q,f,c⟩:=hrel;have j:Below w.heap.size w wr:=ai.trans (c.mono (by omega));have x:w.heap.size<=wr.heap.size:=j.size;have c0:wr.cell? ⟨w.heap.size,0,none⟩=some (.string A.name):=(c.cell (p:=⟨w.heap.size,0,none⟩) (by simp[B])).trans (by rw[g];simp);have c1:wr.cell? ⟨w.heap.size,1,none⟩=some (.slice la A.letters.length lc):=(c.cell (p:=⟨w.heap.size,1,none⟩) (by simp[B])).trans (by rw[g];simp);have c2:wr.cell? ⟨w.heap.size,2,none⟩=some (.slice sa A.small.length sc):=(c.cell (p:=⟨w.heap.size,2,none⟩) (by simp[B])).trans (by rw[g];simp);have N:=bP Q;clear Q;by_cases ad:o<s.size
  .have H:=bP (F o ad);have D:=(hA.below j bW).more x;rcases AP A.bls ((bl s).drop o)with ⟨hF,C⟩ |⟨k,hF,C⟩
   .have L:=bP hF;have M:=bP C;clear hF C;go_wp2_with (go_at_call 145;refine(qX A T t s o O J _ _ D).mono ?_;rintro e y ⟨rfl,a⟩;rw[M.out]);go_ret3;rw[N.out,qP H.out L.out];exact⟨_,rfl,ownsRow_nil _ _ _ _,j.trans (a.mono x)⟩
   .obtain⟨l,G,ae,V,aE⟩:=lZ hF;obtain⟨hk,U⟩:=List.getElem?_eq_some_iff.1 G;rw[r6]at hk;rw[ny hk]at G;obtain rfl:=Option.some.inj G;have hle:=ae.length_le;rw[length_drop,b9,b9]at hle;rw[b9]at V;obtain⟨b,off,rfl,hb,Z⟩:=hl.strs (by omega);have L:=bP hF;have M:=bP C;clear hF C U;have n:∀y,Below wr.heap.size wr y->y.cell? ⟨b,off+k,none⟩=some (.string A.letters[k]):=fun y a=>(a.cell (p:=⟨b,off+k,none⟩) (by simp;omega)).trans ((j.cell (p:=⟨b,off+k,none⟩) hb).trans (Z k hk));clear Z;by_cases d:acc.length=24
    .have aa:((acc.length:Int)==24)=true:=by simp[d]
     have Hf:=bP d;clear d n;obtain⟨_,R,rfl,_⟩:=b8.ah f;go_wp2_with (go_at_call 145;refine(qX A T t s o O J _ _ D).mono ?_;rintro e y ⟨rfl,a⟩;rw[M.out]);go_ret3;rw[N.out,Hf.out,qO H.out L.out];exact⟨_,rfl,ownsRow_nil _ _ _ _,j.trans (a.mono x)⟩
    .have aa:((acc.length:Int)==24)=false:=by simp;omega
     have aD:acc.length<24:=by omega
     clear d;obtain⟨ua,R,rfl,_⟩:=b8.ah f;go_wp2_with (first
      |(go_at_call 145;refine(qX A T t s o O J _ _ D).mono ?_;rintro e y ⟨rfl,a⟩;rw[M.out];have q:=cJ f a;have I:=a.size)
      |(at_builtin;refine wpList_append_own _ rfl _ _ 79 rfl m.heap.size 3 i0 (.int .i64 0) 1 8 underlying79 hi aj ak al rfl (by decide) _ _ _ rfl (q.alloc _) ⟨y.heap.size,0,none⟩ 1 1 [.int .i64 (k:Int)] rfl rfl ?c1 ?c2 ?c3 ?c4 ?c5 ?_))
     case c1=>exact cell_one_new _ _ _
     case c2=>simp[Value.oneCell']
     case c3=>unfold maxLen;omega
     case c4=>omega
     case c5=>have:=c.size;simp;omega
     intro v' X z r _;have E:Below m.heap.size wr X:=((a.mono c.size).alloc (Nat.le_trans c.size I) _).grown r (by have:=c.size;simp;omega) (fun k hk=>(q.lt k hk).1);have c3:X.cell? ⟨b,off+k,none⟩=some (.string A.letters[k]):=(E.cell (p:=⟨b,off+k,none⟩) (by simp;omega)).trans (n wr bX);have aC:X.cell? ⟨w.heap.size,1,none⟩=some (.slice (some ⟨b,off,none⟩) A.letters.length lc):=(E.cell (p:=⟨w.heap.size,1,none⟩) (by simp;omega)).trans c1;have Ho:=bP z;clear z r n c0 c1 c2 f q;go_wp2;refine⟨⟨o+A.letters[k].size,acc++[(k:Int)],by omega,by simp;omega,by go_num,?_,?_,c.trans E⟩,by simp[intOf];omega⟩
     .rw[N.out,show 24-acc.length=(24-(acc.length+1))+1 from by omega,kP H.out L.out (ny hk),length_append,drop_drop,b9];rfl
     .rw[qK,length_append,B];exact Ho.out
  .obtain rfl:o=s.size:=by omega
   go_wp2;go_ret3;have e0:(bl s).drop s.size=[]:=drop_of_length_le (by rw[b9];omega);rw[N.out,e0,sO];exact⟨_,rfl,cP f (by omega),j⟩
theorem js (s:ByteArray)(a b:Nat)(w:World)(p:s.size<=maxLen):
  Calls prog 197 #[.string s,.int .i64 a,.int .i64 b] w fun e w'=>e= .returned (.bool (decide (eH s a b)))/\w=w':=by
 unfold maxLen at p;go_enter func197,ntmps197;go_wp2;go_loop [7] (fun i=>∃j:Nat,j<=s.size/\i= .int .i64 j/\((bl s).take j).all eV=true) (fun i=>s.size-(intOf i).toNat);case atStart=>exact⟨0,zero_le _,rfl,rfl⟩
 case round=>
  obtain⟨j,q,rfl,f⟩:=hrel;have d:=bP f;clear f;by_cases n:j<s.size
  .have m:=bP (dU _ j n);have g:eV s[j]=false->¬eH s a b:=fun hp o=>by
    have:=o.1;rw[iq,jR _ _ j _ m.out hp]at this;cases this
   have c:=bP g;clear g;go_wp2
   .have h1:(((s[j].toNat:Int)<33\/(126:Int)<(s[j].toNat:Int))\/((s[j].toNat:Int)==34)=true):=by assumption
    go_ret;exact⟨cj (c.out (gA (by rcases h1 with (h |h) |h<;>simp[h]))),rfl⟩
   .have h1:(((33:Int)<=(s[j].toNat:Int)/\(s[j].toNat:Int)<=126)/\((s[j].toNat:Int)==34)=false):=by assumption
    refine⟨⟨j+1,by omega,by go_num,?_⟩,by simp[intOf];omega⟩;rw[jx _ _ j _ m.out,d.out,oo h1.1.1 h1.1.2 h1.2];rfl
   .have h1:(126:Int)<(s[j].toNat:Int):=by assumption
    go_ret;exact⟨cj (c.out (gA (.inr (.inl h1)))),rfl⟩
   .have h1:(s[j].toNat:Int)<33:=by assumption
    go_ret;exact⟨cj (c.out (gA (.inl h1))),rfl⟩
  .have k:iq (bl s)=true:=by
    have:=d.out;rwa [take_of_length_le (by rw[b9];omega)]at this
   have l:=bP k;clear k;go_wp2;all_goals
    go_ret;refine⟨fy ?_,rfl⟩;simp[eH,l.out];omega
def qn (R:dj)(A B:cr)(m:Int):Prop:=
 (∀(i:Nat) r,(i:Int)<m->R.list[i]?=some r->r.src.size<=40/\r.dst.size<=40/\r.nxt.size<=40)/\(R.list.length:Int)<=m/\R.src.size<=100/\R.dst.size<=100/\nI A/\nI B
theorem Bh (R:dj)(A B:cr)(m:Int)(v va vb:Value)(w:World)(h:dY w w.heap.size v R)(X:cH w w.heap.size va A)(u:cH w w.heap.size vb B):
  Calls prog 51 #[v,va,vb,.int .i64 m] w fun e w'=>e= .returned (.bool (decide (qn R A B m)))/\Below w.heap.size w w':=by
 have hA:=X;have hB:=u;obtain⟨T,lc,rfl,ah,ai,af,aK,hl⟩:=h;obtain⟨fa,fc,S,gc,rfl,hn,aI,aN,aL,aF,aG⟩:=X;obtain⟨E,F,G,I,rfl,aM,aJ,aO,aE,aB,aC⟩:=u;unfold maxLen at af ah ai;go_enter func51,ntmps51;go_wp2_with fail;generalize d:(((w.alloc _).alloc _).alloc _)=t;have a:Below w.heap.size w t:=by rw[<-d];exact((bX.alloc bW _).alloc (by simp) _).alloc (by simp;omega) _
 have aP:t.heap.size=w.heap.size+3:=by rw[<-d];simp
 have M:Box t w.heap.size [Value.string R.src,.string R.dst,.slice T R.list.length lc]:=by
  rw[<-d];exact((Box.new _ _ _).alloc (by simp) _).alloc (by simp;omega) _
 have J:Box t (w.heap.size+1) [Value.string A.name,.slice fa A.letters.length fc,.slice S A.small.length gc]:=by
  rw[<-d];have:=(Box.new (w.alloc (.cells #[Value.string R.src,.string R.dst,.slice T R.list.length lc] 91)) [Value.string A.name,.slice fa A.letters.length fc,.slice S A.small.length gc] 83);simp at this;exact this.alloc (by simp) _
 have L:Box t (w.heap.size+2) [Value.string B.name,.slice E B.letters.length F,.slice G B.small.length I]:=by
  rw[<-d];have:=(Box.new ((w.alloc (.cells #[Value.string R.src,.string R.dst,.slice T R.list.length lc] 91)).alloc (.cells #[Value.string A.name,.slice fa A.letters.length fc,.slice S A.small.length gc] 83)) [Value.string B.name,.slice E B.letters.length F,.slice G B.small.length I] 83);simp at this;exact this
 clear d;obtain⟨r0,r1,r2⟩:=M.c3;have z:=bQ J L;clear J L M;go_loop [9] (fun i=>∃k:Nat,k<=R.list.length/\((k:Int)<=m\/k=0)/\i= .int .i64 k/\(∀(i:Nat) r,i<k->R.list[i]?=some r->r.src.size<=40/\r.dst.size<=40/\r.nxt.size<=40)) (fun i=>R.list.length-(intOf i).toNat);case atStart=>exact⟨0,zero_le _,.inr rfl,rfl,by simp⟩
 case round=>
  obtain⟨k,hk,aH,rfl,D⟩:=hrel;have H:=bP D;clear D;by_cases c:k<R.list.length/\(k:Int)<m
  .obtain⟨c,hm⟩:=c;obtain⟨b,off,rfl,u,j⟩:=hl.aU (by omega);have k0:=(a.cell (p:=⟨b,off+k*4,none⟩) u).trans (j k c).1;have k1:=(a.cell (p:=⟨b,off+k*4+1,none⟩) u).trans (j k c).2.1;have k2:=(a.cell (p:=⟨b,off+k*4+2,none⟩) u).trans (j k c).2.2.1;clear j hl;have o:Hid (¬(R.list[k].src.size<=40/\R.list[k].dst.size<=40/\R.list[k].nxt.size<=40)->¬qn R A B m):=fun ag n=>ag (n.1 k _ hm (getElem?_eq_getElem c));have l:Hid ((R.list[k].src.size<=40/\R.list[k].dst.size<=40/\R.list[k].nxt.size<=40)->∀(i:Nat) r,i<k+1->R.list[i]?=some r->r.src.size<=40/\r.dst.size<=40/\r.nxt.size<=40):=fun q i r hi y=>by
    rcases Nat.lt_succ_iff_lt_or_eq.1 hi with h |rfl
    .exact H.out i r h y
    .rw[getElem?_eq_getElem c]at y;obtain rfl:=Option.some.inj y;exact q
   obtain⟨x,hx⟩:∃x,x=R.list[k]:=⟨_,rfl⟩;rw[<-hx]at k0 k1 k2 o l;clear hx;by_cases q:x.src.size<=40/\x.dst.size<=40/\x.nxt.size<=40
   .have O:=bP (l.out q);obtain⟨y1,y2,y3⟩:=q;go_wp2;exact⟨⟨k+1,by omega,by omega,by go_num,O.out⟩,by simp[intOf];omega⟩
   .have O:=bP (o.out q);have V:=bP q;clear q l o;go_wp2;all_goals first
     |(go_ret;exact⟨cj O.out,a⟩)
     |(exfalso;have:=V.out;omega)
  .by_cases j:(R.list.length:Int)<=m/\R.src.size<=100/\R.dst.size<=100
   .obtain⟨Z,aa,ab⟩:=j;have ad:k=R.list.length:=by omega
    have N:Hid (∀(i:Nat) r,(i:Int)<m->R.list[i]?=some r->r.src.size<=40/\r.dst.size<=40/\r.nxt.size<=40):=fun i r _ y=>H.out i r (by have:=(List.getElem?_eq_some_iff.1 y).1;omega) y;have q1:=pD _ A t ((hA.below a bW).more a.size);obtain⟨a0,Q,a2⟩:=z.out.1.c3;clear ad;by_cases f:nI A
    .rw[decide_eq_true f]at q1;have C:=bP f;have P:=bP q1;clear f q1;go_wp2_with fail;refine P.out.mono ?_;rintro e w5 ⟨rfl,s⟩;obtain⟨b0,b1,b2⟩:=(z.out.2.below s (by omega)).c3;have g:=a.trans (s.mono a.size);have q2:=pD _ B w5 ((hB.below g bW).more g.size);have Q2:=bP q2;clear q2 a0 Q a2 r0 r1 r2;go_wp2_with fail;refine Q2.out.mono ?_;rintro e w6 ⟨rfl,Y⟩;have Hd:=bP (show decide (nI B)=true↔qn R A B m from by
      rw[decide_eq_true_iff,qn];exact⟨fun h=>⟨N.out,Z,aa,ab,C.out,h⟩,fun h=>h.2.2.2.2.2⟩)
     go_wp2;go_ret;exact⟨fy Hd.out,g.trans (Y.mono g.size)⟩
    .rw[decide_eq_false f]at q1;have C:=bP f;have P:=bP q1;clear f q1;go_wp2_with fail;refine P.out.mono ?_;rintro e w5 ⟨rfl,s⟩;have g:=a.trans (s.mono a.size);clear a0 Q a2 r0 r1 r2;go_wp2;go_ret;exact⟨cj (fun n=>C.out n.2.2.2.2.1),g⟩
   .have Hc:=bP j;have U:=bP (show¬qn R A B m from fun n=>j ⟨n.2.1,n.2.2.1,n.2.2.2.1⟩);clear j;obtain⟨a0,Q,a2⟩:=z.out.1.c3;go_wp2;all_goals first
     |(go_ret;exact⟨cj U.out,a⟩)
     |(exfalso;have:=Hc.out;omega)
end
end Go.Proofs.YtmhdgddjeadjjaaGreatDoor
