/- GE -/
import Derived.Test.YtmhdgddjeadjjaaGreatDoorP11
namespace Go.Proofs.YtmhdgddjeadjjaaGreatDoor
open _root_.List Go.Lib _root_.Nat Go.World _root_.Int Go.Proofs.Tryz
variable {D:Nat}{S:Nat → Prop}{w w':World}
section
open Go.RowKit Classical
open Go.Shelf
attribute [local go_sem] Oper.semAt_some
theorem gB (b:Bool):(some undef=some (Value.bool b))=False:=by simp[undef]
theorem fU (b:Bool):(undef=Value.bool b)=False:=by simp[undef]
attribute [local go_sem] gB fU
theorem Chg.grown {w'':World}{row:Option Nat}(h:Chg S w w')(a:w'.grownBy w'' row)(c:∀r,row=some r->w.heap.size<=r):Chg S w w'':=
 ⟨a.os.trans h.os,a.tape.trans h.tape,a.output.trans h.output,Nat.le_trans h.size a.size,fun k hk b=>(a.block k (Nat.lt_of_lt_of_le hk h.size) (fun e=>by have:=c k e.symm;omega)).trans (h.block k hk b)⟩
theorem Chg.aM {T:Nat->Prop}{w'':World}(h:Chg S w w')(k:Chg T w' w'')(c:∀i,T i->¬i<w.heap.size):Chg S w w'':=
 ⟨k.os.trans h.os,k.tape.trans h.tape,k.output.trans h.output,Nat.le_trans h.size k.size,fun i a b=>(k.block i (Nat.lt_of_lt_of_le a h.size) (fun d=>c i d a)).trans (h.block i a b)⟩
theorem Chg.putObj (h:Chg S w w')(b:w.heap.size<=D)(o:Obj):Chg S w (w'.putObj D o):=
 ⟨h.os,h.tape,h.output,by rw[putObj_size];exact h.size,fun k hk a=>(putObj_heap_other (by omega)).trans (h.block k hk a)⟩
theorem gj {W W':World}(B:Nat)(h:Chg S W W')(b:∀k,S k->∃(cs:Array Value) (t:TypeId),Blk W k cs t):KeepsFrom B W W':=
 ⟨h.size,fun k o _ hk c=>by
  refine(h.block k (Array.getElem?_eq_some_iff.1 hk).1 (fun d=>?_)).trans hk;obtain⟨cs,t,a⟩:=b k d;unfold Blk at a;rw[a]at hk;cases hk;cases c⟩
theorem b8.chg {B:Nat}{a:Option Addr}{xs:List Value}(h:b8 w B a xs)(g:Chg S w w')(l:B<=w.heap.size)(d:0<xs.length->∀p,a=some p->¬S p.block):b8 w' B a xs:=fun c=>by
 obtain⟨b,off,e,f,k⟩:=h c;exact⟨b,off,e,f,fun i x j=>(eN (g.block b (by omega) (d c _ e)) (off+i)).trans (k i x j)⟩
theorem yF {W:World}{b:Nat}{cs:Array Value}{t:TypeId}(h:Blk W b cs t)(a:b≠D)(o:Obj):Blk (W.putObj D o) b cs t:=(putObj_heap_other a).trans h
theorem CK {F:Fence}{n:Nat}{P:Program}{fn:Func}{R:Ending->World->Prop}{a:Act}{v:Value}
  (hK:w.heap[D]?=some (.deferred (some [])))(d:(results fn a.tmps).run P (w.putObj D (.deferred none))= .ok v (w.putObj D (.deferred none)))(c:a.defers=[{ target:= .collected D,args:= #[] }])(b:R (.returned v) (w.putObj D (.deferred none))):bodyPostM F n P fn R .ret a w:=by
 show LeavesInM F n P fn a.tmps R a.defers .returning w;rw[c];exact⟨by simp,.inl ⟨_,_,rfl,run_takeDeferred hK,v,d,b⟩⟩
theorem j1 {W W':World}{b:Nat}{cs:Array Value}{t:TypeId}{row:Option Nat}(h:Blk W b cs t)(d:W.grownBy W' row)(f:∀r,row=some r->∃o:Obj,W.heap[r]?=some o/\o.isCells=false):Blk W' b cs t:=by
 refine h.grown d (fun e=>?_);obtain⟨ob,a,c⟩:=f _ e.symm;rw[show W.heap[b]?=_ from h]at a;cases a
 cases c
def tS (M:cu)(sn:List Int)(s bs:Nat)(w:World)(e:Ending)(w':World):Prop:=
 ∃(r:Bool) (sn':List Int),e= .returned (.bool r)/\Blk w' bs (nums sn').toArray 3/\sn'.length=sn.length/\Chg (fun k=>k=bs) w w'/\(r=true->eJ M)/\(r=false->zm M sn s sn')
theorem tb {M:cu}{sn sn':List Int}{s bs:Nat}{W:World}{n:Nat}{tmps:Array Value}{r:Bool}(t5:tmps[5]?.getD undef= .pointer (some ⟨w.heap.size,0,none⟩))(g:w.heap.size<D)(c:bs<w.heap.size)
  (hK:W.heap[D]?=some (.deferred (some [])))(f:Blk W w.heap.size #[.bool r] 4)(b:Blk W bs (nums sn').toArray 3)(e:sn'.length=sn.length)(d:Chg (fun k=>k=bs) w W)(h1:r=true->eJ M)(a:r=false->zm M sn s sn'):
  bodyPostM Fence.wide n prog f162 (tS M sn s bs w) .ret { tmps:=tmps,defers:=[{ target:= .collected D,args:= #[] }] } W:=by
 have m1:=(yF f (D:=D) (by omega) (.deferred none)).cell 0;simp only[getElem?_toArray,getElem?_cons_zero]at m1;refine CK (v:= .bool r) hK ?_ rfl ?_
 .simp[results,results162,go_sem,t5,m1]
 .exact⟨r,sn',rfl,yF b (by omega) _,e,d.putObj (by omega) _,h1,a⟩
set_option maxRecDepth 100000
set_option maxHeartbeats 4000000
theorem Cp (M:cu)(hv:cN M)(Bx Bm Bv bs:Nat)(Q:Bx≠bs/\Bm≠bs/\Bv≠bs)(fa:Option Addr)(fc:Nat)(aa:Option Addr)(ac:Nat)(au:0<M.arcs.length->∀p,aa=some p->p.block≠bs):∀(f:Nat) (s:Nat) (sn:List Int) (w:World),
  sn.count 0<=f->(sn.length:Int)=M.ag->sn[s]?=some 0->lS M sn->oS sn->(∀u:Nat,sn[u]?=some 1->q8 (Ed M) u s)->
  Blk w bs (nums sn).toArray 3->Blk w Bx #[.slice (some ⟨bs,0,none⟩) sn.length sn.length] 79->
  Blk w Bm #[.int .i64 M.ag,.int .i64 M.start,.slice fa M.final.length fc,.slice aa M.arcs.length ac] 98->
  (∃T,Blk w Bv #[.func (.func 162) #[] #[.pointer (some ⟨Bx,0,none⟩),.pointer (some ⟨Bm,0,none⟩),.pointer (some ⟨Bv,0,none⟩)]] T)->
  b8 w w.heap.size aa (flat M.arcs)->
  Calls prog 162 #[.int .i64 s,.pointer (some ⟨Bx,0,none⟩),.pointer (some ⟨Bm,0,none⟩),.pointer (some ⟨Bv,0,none⟩)] w (tS M sn s bs w):=by
 intro f;induction f with
 |zero=>
  intro s sn w hf _ h0;exfalso;have:=count_set h0;omega
 |succ f ih=>
  intro s sn w hf hlen h0 a8 E ba af ay aJ ax aR;obtain⟨TV,ax⟩:=ax;have hs:s<sn.length:=(List.getElem?_eq_some_iff.1 h0).1;have bD:M.ag<=4000:=hv.most;obtain⟨W0,ar⟩:∃W0:World,W0=w.alloc (.cells #[.bool false] 4):=⟨_,rfl⟩;have bb:Boxed W0 w.heap.size 4 (.bool false):=by rw[ar];exact Boxed.new _ _ _
  have ae:Below w.heap.size w W0:=by rw[ar];exact bX.alloc bW _
  have L:=af.below ae af.lt;have ao:=ay.below ae ay.lt;have xc:=ao.cell 0;have sc:=L.cell s;have sf:=L.frozen s;have e1:(nums sn).toArray[s]?=some (.int .i64 0):=by simp[nums,h0]
  rw[e1]at sc;simp only[getElem?_toArray,getElem?_cons_zero]at xc;have bq:=bP ar;obtain⟨m,ad⟩:∃m:World,m=W0.setCell ⟨bs,s,none⟩ (.int .i64 1):=⟨_,rfl⟩;have aN:Chg (fun k=>k=bs) w m:=by rw[ad];exact(Chg.ai _ ae).trans (Chg.setCell (S:=fun k=>k=bs) (p:=⟨bs,s,none⟩) _ (.inl rfl) _)
  have aK:Blk m bs (nums (sn.set s 1)).toArray 3:=by
   rw[ad];have:=L.aj s (.int .i64 1);simpa [nums,map_set]using this
  have C:=aJ.chg aN Q.2.1;have bc:Boxed m w.heap.size 4 (.bool false):=by
   rw[ad];exact Blk.far (b:=w.heap.size) bb (p:=⟨bs,s,none⟩) (by have:=af.lt;show w.heap.size≠bs;omega) _
  have bL:=C.cell 0;have bM:=C.cell 1;have bN:=C.cell 2;have bO:=C.cell 3;simp only[getElem?_toArray,getElem?_cons_zero,getElem?_cons_succ]at bL bM bN bO;have br:=bP ad;have I:=bT ba a8 E h0;have ah:=bP hlen;have B:=bU af ay aJ ax aR;have H0:=bS L ao ae;have H1:=bT aN aK C bc;clear ar ad e1 ba a8 E h0 hlen af ay aJ ax aR L ao ae bb aN aK C bc;refine(callsIn_wide (n:=5)).1 ?_;refine callsIn_of_wp_marks func162 rfl trivial ?_ rfl;simp only[ntmps162,size_toArray,length_cons,length_nil,Nat.reduceAdd,Nat.reduceSub,Array.replicate_succ,Array.replicate_zero,push_toArray,append_toArray,nil_append,cons_append];refine wpIn_wide.2 ?_;go_upto_region 1 with (fail);rw[<-bq.out];go_upto_region 2 with (fail);rw[<-br.out];go_wp2_with (go_at_call 163;refine(rk _ _ _ _ _ _ _).mono ?_;rintro e w' ⟨rfl,bg⟩);obtain⟨v,J⟩:∃v:World,v=((m.alloc (.cells #[.int .i64 M.ag,.int .i64 M.start,.slice fa M.final.length fc,.slice aa M.arcs.length ac] 98)).alloc (.cells #[.int .i64 s] 3)).alloc (.cells #[.int .i64 0] 3):=⟨_,rfl⟩;try rw[bg]
  rw[<-J];have g0:Blk v m.heap.size #[.int .i64 M.ag,.int .i64 M.start,.slice fa M.final.length fc,.slice aa M.arcs.length ac] 98:=by rw[J];exact((Blk.new _ _ _).alloc _).alloc _
  have g1:Blk v (m.heap.size+1) #[.int .i64 s] 3:=by rw[J];have:=(Blk.new (m.alloc (.cells #[.int .i64 M.ag,.int .i64 M.start,.slice fa M.final.length fc,.slice aa M.arcs.length ac] 98)) #[.int .i64 s] 3).alloc (.cells #[.int .i64 0] 3);simpa using this
  have g2:Blk v (m.heap.size+2) #[.int .i64 0] 3:=by rw[J];have:=Blk.new ((m.alloc (.cells #[.int .i64 M.ag,.int .i64 M.start,.slice fa M.final.length fc,.slice aa M.arcs.length ac] 98)).alloc (.cells #[.int .i64 s] 3)) #[.int .i64 0] 3;simpa using this
  have V:Below m.heap.size m v:=by rw[J];exact((bX.alloc bW _).alloc (by simp) _).alloc (by simp;omega) _
  have bB:v.heap.size=m.heap.size+3:=by rw[J];simp
  have z:Chg (fun k=>k=bs) w v:=H1.out.1.trans (Chg.ai _ V);have aU:b8 v v.heap.size aa (flat M.arcs):=(B.out.2.2.2.2.chg z bW (fun h0=>au (by rw[cT]at h0;omega))).more z.size;have A:0<M.arcs.length->∀p,aa=some p->p.block<m.heap.size:=fun h0 p hp=>by
   obtain⟨b,off,e,hb,_⟩:=B.out.2.2.2.2 (by rw[cT];omega);rw[hp]at e;cases e;exact Nat.lt_of_lt_of_le hb H1.out.1.size
  have bk:=H1.out.2.1.below V H1.out.2.1.lt;have bA:Blk v w.heap.size #[.bool false] 4:=Blk.below (b:=w.heap.size) H1.out.2.2.2 V H1.out.2.2.2.lt;have bd:=H1.out.2.2.2.lt;have aL:=B.out.1.lt;have b9:=B.out.2.1.lt;have b6:=B.out.2.2.1.lt;have b7:=B.out.2.2.2.1.lt;have aI:jj v m.heap.size (m.heap.size+1) (m.heap.size+2) M.arcs s 0 aa ac:=⟨g0.cell 3,g1.cell 0,g2.cell 0,aU⟩;have bC:∀a∈M.arcs,Small a:=fun a ha=>oC bD (hv.arcs a ha);have bm:∀a∈M.arcs,0<=a.out:=fun a ha=>by have:=(hv.arcs a ha).2.2.2;unfold dD at this;omega
  have bf:∀a∈M.arcs,0<=a.to/\a.to<M.ag:=fun a ha=>(hv.arcs a ha).2.1;have hT:Small (tgt (s:Int) 0):=by
   have:=ah.out;unfold Small tgt;simp;omega
  clear bg J V;obtain⟨o,ho⟩:∃o,m.heap.size=o:=⟨_,rfl⟩;rw[ho]at g0 g1 g2 bB bd aI A⊢;have cq:w.heap.size<o:=bd;refine(wpIn_wide (n:=5)).1 ?_;refine wpIn_rangeFunc_ownH (α:={x//x∈c7 M.arcs s 0}) (encs:=fun x=> #[.agg #[.int .i64 x.1.frm,.int .i64 x.1.inp,.int .i64 x.1.out,.int .i64 x.1.to]]) (Kp:=fw o (o+1) (o+2) M.arcs aa) (S:=fun ys=>ys.map (·.1)=c7 M.arcs s 0) (Sp:=fun _=>True) (N:=(c7 M.arcs s 0).length) (w0:=v)
   rfl (by omega) (gf:=209) (lb:= #[.pointer (some ⟨o,0,none⟩),.pointer (some ⟨o+1,0,none⟩),.pointer (some ⟨o+2,0,none⟩)]) rfl trivial (enters_of func209 (by kernel_rfl) rfl)
   ?seq (fun h k=>h.trans k) ?kb bX (fun _=>rfl)
   (fun pre W=>∃d,iH M sn s (pre.map (·.1)) d/\Blk W bs (nums d).toArray 3/\Blk W w.heap.size #[.bool false] 4/\Chg (fun k=>k=bs) v W)
   (fun c pre W=>c= .ret/\eJ M/\∃d,d.length=sn.length/\Blk W bs (nums d).toArray 3/\Blk W w.heap.size #[.bool true] 4/\Chg (fun k=>k=bs\/k=w.heap.size) v W)
   ?hI ?hIx ?h0
   (fun x a' W=>∃g,a'={ tmps:= #[.int .i64 s,.pointer (some ⟨Bx,0,none⟩),.pointer (some ⟨Bm,0,none⟩),.pointer (some ⟨Bv,0,none⟩),undef,.pointer (some ⟨w.heap.size,0,none⟩),.pointer (some ⟨g,0,none⟩),
    .slice (some ⟨bs,0,none⟩) sn.length sn.length,.int .i64 s,.pointer (some ⟨bs,s,none⟩),.agg #[.int .i64 M.ag,.int .i64 M.start,.slice fa M.final.length fc,.slice aa M.arcs.length ac],.int .i64 s,
    .func (.func 209) #[] #[.pointer (some ⟨o,0,none⟩),.pointer (some ⟨o+1,0,none⟩),.pointer (some ⟨o+2,0,none⟩)],.agg #[.int .i64 x.1.frm,.int .i64 x.1.inp,.int .i64 x.1.out,.int .i64 x.1.to],
    undef,undef,undef,undef,undef,undef,undef,undef,undef,undef,undef,undef,undef,undef,undef,undef,undef,undef,undef,undef,undef,undef,undef],defers:=[] }/\Blk W g #[.int .i64 x.1.frm,.int .i64 x.1.inp,.int .i64 x.1.out,.int .i64 x.1.to] 171) ?hAx ?assign ?body ?done ?stop
  case seq=>
   exact rp 4 (by omega) o (o+1) (o+2) M.arcs s 0 aa ac hv.an bC bm hv.az hT v aI
  case kb=>
   intro W l ob cr hl _ _ _;exact⟨putObj_heap_other (by omega),putObj_heap_other (by omega),putObj_heap_other (by omega),fun h0 p hp=>putObj_heap_other (by have:=A h0 p hp;omega)⟩
  case hI=>
   rintro pre X Y row ⟨d,h1,q,j,i⟩ G Z;exact⟨d,h1,j1 q G (fun r e=>(Z r e).2),j1 j G (fun r e=>(Z r e).2),i.grown G (fun r e=>(Z r e).1)⟩
  case hIx=>
   rintro c pre X Y row ⟨hc,O,d,h1,q,j,i⟩ G Z;exact⟨hc,O,d,h1,j1 q G (fun r e=>(Z r e).2),j1 j G (fun r e=>(Z r e).2),i.grown G (fun r e=>(Z r e).1)⟩
  case h0=>exact⟨sn.set s 1,iH.start I.out.2.2.2 I.out.2.1 I.out.2.2.1,bk,bA,Chg.refl _ _⟩
  case hAx=>
   rintro x a' _ X Y row ⟨g,rfl,bz⟩ G Z;exact⟨g,rfl,j1 bz G (fun r e=>(Z r e).2)⟩
  case assign=>
   rintro l pre x W K ⟨d,h1,q,j,i⟩ hK;gi_wp2;refine hK _ _ ?_ ?_ ⟨d,h1,q.alloc _,j.alloc _,i.trans (Chg.alloc _ _ _)⟩ ⟨_,rfl,Blk.new _ _ _⟩
   .exact((Below.refl _ W).alloc bW _ |> fun h=>gj (S:=fun _=>False) _ (Chg.ai _ h) (fun _ h=>h.elim))
   .exact(aI.keep ⟨i.block o (by omega) (by omega),i.block (o+1) (by omega) (by omega),i.block (o+2) (by omega) (by omega),fun h0 p hp=>i.block p.block (by have:=A h0 p hp;omega) (au h0 p hp)⟩).below ((Below.refl _ W).alloc bW _)
  case body=>
   rintro l pre ⟨x,aS⟩ a' W hl cf ⟨d,h1,q,j,i⟩ ⟨g,rfl,G⟩ cm;dsimp only at G⊢;have bF:=bf x (ec.1 aS).1;have P:d.length=sn.length:=by rw[h1.aw.len];simp
   obtain⟨t,ht⟩:∃t:Nat,x.to=t:=⟨x.to.toNat,by omega⟩;have be:t<d.length:=by have:=ah.out;omega
   have y:Chg (fun k=>k=bs) w W:=z.trans i;have aT:=(B.out.2.1.chg y Q.1).cell 0;have bY:=(B.out.2.2.2.1.chg y Q.2.2).cell 0;have x3:=G.cell 3;have tc:=q.cell t;have rc:=Blk.cell (b:=w.heap.size) j 0;have rf:=Blk.frozen (b:=w.heap.size) j 0;have ab:(nums d).toArray[t]?=some (.int .i64 d[t]):=by simp[nums,be]
   rw[ab]at tc;rw[ht]at x3;simp only[getElem?_toArray,getElem?_cons_zero,getElem?_cons_succ]at aT bY x3 rc;rw[ht];obtain⟨aq,E⟩:∃aq,aq=d[t]:=⟨_,rfl⟩;rw[<-E]at tc;have U:=bP (show d[t]?=some aq by rw[E];exact getElem?_eq_getElem be);clear ab E;rcases h1.aQ aq (mem_of_getElem? U.out)with rfl |rfl |rfl
   .have aZ:d.count 0<=f:=by
     have a1:=h1.aw.count;have a2:=count_set I.out.2.2.2;omega
    have aO:∀u:Nat,d[u]?=some 1->q8 (Ed M) u t:=fun u hu=> .inr (by have:=uM I.out.1 hs h1 aS u hu;rwa [ht]at this);have hQ:=ih t d W aZ (by rw[P];exact ah.out) U.out h1.ok h1.aQ aO q (by rw[P];exact B.out.2.1.chg y Q.1) (B.out.2.2.1.chg y Q.2.1) ⟨TV,B.out.2.2.2.1.chg y Q.2.2⟩ ((B.out.2.2.2.2.chg y bW (fun h0=>au (by rw[cT]at h0;omega))).more y.size);have HQ:=bP (CallsIn.inRound l ((callsIn_wide (n:=2)).2 hQ));have H:=bT h1 q j i;clear hQ aO h1 q j i aZ;gi_wp2;refine⟨trivial,HQ.out.mono ?_⟩;rintro e w4 ⟨r,bh,rfl,k1,k2,k3,k4,k5⟩;have aA:Blk w4 w.heap.size #[.bool false] 4:=Blk.chg (b:=w.heap.size) H.out.2.2.1 k3 (by show w.heap.size≠bs;omega);have bR:=Blk.cell (b:=w.heap.size) aA 0;have cv:=Blk.frozen (b:=w.heap.size) aA 0;simp only[getElem?_toArray,getElem?_cons_zero]at bR;have a6:=gj v.heap.size k3 (fun k hk=>by subst hk;exact⟨_,_,H.out.2.1⟩);have aW:=H.out.2.2.2.trans k3;have a7:fw o (o+1) (o+2) M.arcs aa W w4:=by
     have cp:=H.out.2.2.2.size;exact⟨k3.block o (by omega) (by omega),k3.block (o+1) (by omega) (by omega),k3.block (o+2) (by omega) (by omega),fun h0 p hp=>k3.block p.block (by have:=A h0 p hp;omega) (au h0 p hp)⟩
    have F:=bV k1 aA a6 aW a7 (And.intro k4 k5);clear k1 aA a6 aW a7 k3 k4 k5;rcases r with _ |_
    .gi_wp2;refine⟨F.out.2.2.1,F.out.2.2.2.2.1,bh,?_,F.out.1,F.out.2.1,F.out.2.2.2.1⟩;have bE:=F.out.2.2.2.2.2.2 (by trivial);rw[map_append];exact H.out.1.new (x:=x) (by rw[ht,toNat_natCast];exact bE)
    .gi_wp2;refine⟨F.out.2.2.1.trans (gj (S:=fun k=>k=w.heap.size) _ (Chg.setCell (S:=fun k=>k=w.heap.size) (p:=⟨w.heap.size,0,none⟩) _ (.inl rfl) _) (fun k hk=>by subst hk;exact⟨_,_,F.out.2.1⟩)),rfl,F.out.2.2.2.2.2.1 (by trivial),bh,by omega,Blk.far F.out.1 (p:=⟨w.heap.size,0,none⟩) (by show bs≠w.heap.size;omega) _,Blk.aj F.out.2.1 0 _,(F.out.2.2.2.1.mono (fun k hk=> .inl hk)).trans (Chg.setCell (S:=fun k=>k=bs\/k=w.heap.size) (p:=⟨w.heap.size,0,none⟩) _ (.inl (.inr rfl)) _)⟩
   .have O:=bP (h1.bI I.out.1 hs aS bF.1 (by rw[ht,toNat_natCast];exact U.out));gi_wp2_with (refine wpListIn_skip (by rfl) (by rfl) ?_);refine⟨gj (S:=fun k=>k=w.heap.size) _ (Chg.setCell (S:=fun k=>k=w.heap.size) (p:=⟨w.heap.size,0,none⟩) _ (.inl rfl) _) (fun k hk=>by subst hk;exact⟨_,_,j⟩),rfl,O.out,d,P,Blk.far q (p:=⟨w.heap.size,0,none⟩) (by show bs≠w.heap.size;omega) _,Blk.aj j 0 _,(i.mono (fun k hk=> .inl hk)).trans (Chg.setCell (S:=fun k=>k=bs\/k=w.heap.size) (p:=⟨w.heap.size,0,none⟩) _ (.inl (.inr rfl)) _)⟩
   .have hold:=bP (h1.old (x:=x) (by rw[ht,toNat_natCast];exact U.out));gi_wp2_with (refine wpListIn_skip (by rfl) (by rfl) ?_);exact⟨KeepsFrom.refl _ _,fw.refl,d,by rw[map_append];exact hold.out,q,j,i⟩
  case done=>
   rintro D ys W hD bG ⟨d,h1,q,j,i⟩ hK;rw[bG]at h1;have aP:=h1.finish I.out.2.2.2 (fun a ha=>(bf a ha).1);have P:d.length=sn.length:=by rw[h1.aw.len];simp
   have aB:=h1.bH hs;have y:Chg (fun k=>k=bs) w W:=z.trans i;have aT:=(B.out.2.1.chg y Q.1).cell 0;have tc:=q.cell s;have tf:=q.frozen s;have rc:=Blk.cell (b:=w.heap.size) j 0;have rf:=Blk.frozen (b:=w.heap.size) j 0;have ab:(nums d).toArray[s]?=some (.int .i64 1):=by simp[nums,aB]
   rw[ab]at tc;simp only[getElem?_toArray,getElem?_cons_zero]at aT rc;have cn:s<d.length:=by omega
   obtain⟨W3,R⟩:∃W3:World,W3=W.setCell ⟨bs,s,none⟩ (.int .i64 2):=⟨_,rfl⟩;have k2:Blk W3 bs (nums (d.set s 2)).toArray 3:=by
    rw[R];have:=q.aj s (.int .i64 2);simpa [nums,map_set]using this
   have k3:Blk W3 w.heap.size #[.bool false] 4:=by rw[R];exact Blk.far (b:=w.heap.size) j (p:=⟨bs,s,none⟩) (by show w.heap.size≠bs;omega) _
   have aY:Chg (fun k=>k=bs) w W3:=by rw[R];exact y.trans (Chg.setCell (S:=fun k=>k=bs) (p:=⟨bs,s,none⟩) _ (.inl rfl) _)
   have aX:W3.heap[D]?=some (.deferred (some [])):=by rw[R];exact(Below.heap_setCell W ⟨bs,s,none⟩ _ D (by show D≠bs;omega)).trans hK
   have bQ:=Blk.cell (b:=w.heap.size) k3 0;have ct:=Blk.frozen (b:=w.heap.size) k3 0;simp only[getElem?_toArray,getElem?_cons_zero]at bQ;have bt:=bP R;have H3:=bU k2 k3 aY aX aP;clear ab h1 q j i y aB aP hK R k2 k3 aY aX;gi_wp2;go_upto_region 7 with (fail);rw[<-bt.out];go_wp2_with fail;refine tb (r:=false) (sn':=d.set s 2) rfl (by omega) aL ?_ (Blk.aj H3.out.2.1 0 _) (Blk.far H3.out.1 (p:=⟨w.heap.size,0,none⟩) (by show bs≠w.heap.size;omega) _) (by simpa using P) ?_ (fun e=>by cases e) (fun _=>H3.out.2.2.2.2)
   .exact(Below.heap_setCell W3 ⟨w.heap.size,0,none⟩ _ D (by show D≠w.heap.size;omega)).trans H3.out.2.2.2.1
   .exact H3.out.2.2.1.aM (Chg.setCell (S:=fun k=>k=w.heap.size) (p:=⟨w.heap.size,0,none⟩) _ (.inl rfl) _) (fun k hk hw=>by omega)
  case stop=>
   rintro D c pre W hD _ ⟨rfl,O,d,P,q,j,i⟩ hK;gi_wp2;exact tb rfl (by omega) aL hK j q P ⟨i.os.trans z.os,i.tape.trans z.tape,i.output.trans z.output,Nat.le_trans z.size i.size,fun k hk hS=>(i.block k (Nat.lt_of_lt_of_le hk z.size) (fun e=>e.elim hS (fun e=>by omega))).trans (z.block k hk hS)⟩ (fun _=>O) (fun e=>by cases e)
end
section
open Go.RowKit Classical
theorem uE {P:Program}(t e:TypeId)(i:TypeInfo)(z:Value)(k:P.underlying t=some (.slice e))(j:P.info? e=some i)(l:i.zero=some z)
  (f d:IntKind)(n c:Nat)(o:n<=c)(a:i.bytes*c<=281474976710656)(m:c<=9223372036854775807)(w:World):
  (Instr.makeSlice t (.int f (n:Int)) (.int d (c:Int))).run P w= .ok (.slice (some ⟨w.heap.size,0,none⟩) n c) (w.alloc (.cells (madeCells z.cells (c*i.size)) e)):=by
 have g:(i.bytes:Int)*(c:Int)<=281474976710656:=by
  have h:((i.bytes*c:Nat):Int)<=281474976710656:=by omega
  rwa [natCast_mul]at h
 have b:=run_make (P:=P) w t e i z k j l f d n c (by omega) (by omega) g (by omega);simp only[toNat_natCast]at b;exact b
theorem tA (n:Nat):madeCells #[.int .i64 0] n=(nums (replicate n 0)).toArray:=by
 apply Array.ext
 .simp[madeCells,nums]
 .intro i h1 a;simp[madeCells,mod_one,nums]
set_option maxRecDepth 100000
set_option maxHeartbeats 4000000
theorem Av (M:cu)(hv:cN M)(v:Value)(w:World)(h:dx w w.heap.size v M):
  Calls prog 96 #[v] w fun e w'=>e= .returned (.bool (decide (eJ M)))/\Below w.heap.size w w':=by
 obtain⟨fa,fc,aa,ac,rfl,aB,aA,hf,G⟩:=h;obtain⟨i0,Q,X,Y,Z⟩:=info_parts kh;obtain⟨n,hn⟩:∃n:Nat,M.ag=n:=⟨M.ag.toNat,by have:=hv.one;omega⟩;have aD:n<=4000:=by have:=hv.most;omega
 have V:=fun W=>uE (P:=prog) 79 3 i0 (.int .i64 0) underlying79 Q X .i64 .i64 n n bW (by rw[Z];omega) (by omega) W;rw[Y]at V;have Hv:=bP hv;have ax:=bP G;clear hf;go_enter func96,ntmps96;rw[hn];go_upto_block 1 with (fail);generalize o:((((w.alloc _).alloc _).alloc _).alloc _)=C;obtain⟨d,l⟩:∃b,w.heap.size=b:=⟨_,rfl⟩;have k0:Blk C d #[.int .i64 n,.int .i64 M.start,.slice fa M.final.length fc,.slice aa M.arcs.length ac] 98:=by
  rw[<-o,<-l];exact(((Blk.new _ _ _).alloc _).alloc _).alloc _
 have k1:Blk C (d+1) (nums (replicate n 0)).toArray 3:=by
  rw[<-o,<-l,<-tA];have:=((Blk.new (w.alloc (.cells #[.int .i64 n,.int .i64 M.start,.slice fa M.final.length fc,.slice aa M.arcs.length ac] 98)) (madeCells #[.int .i64 0] n) 3).alloc (.cells #[.slice (some ⟨w.heap.size+1,0,none⟩) n n] 79));simp only[size_alloc]at this;exact this.alloc _
 have k2:Blk C (d+2) #[.slice (some ⟨d+1,0,none⟩) n n] 79:=by
  rw[<-o,<-l];have:=(Blk.new ((w.alloc (.cells #[.int .i64 n,.int .i64 M.start,.slice fa M.final.length fc,.slice aa M.arcs.length ac] 98)).alloc (.cells (madeCells #[.int .i64 0] n) 3)) #[.slice (some ⟨w.heap.size+1,0,none⟩) n n] 79);simp only[size_alloc]at this;exact this.alloc _
 have k3:∃T,Blk C (d+3) #[.func (.func 162) #[] #[.pointer (some ⟨d+2,0,none⟩),.pointer (some ⟨d,0,none⟩),.pointer (some ⟨d+3,0,none⟩)]] T:=by
  rw[<-o,<-l];have:=fun T=>Blk.new (((w.alloc (.cells #[.int .i64 n,.int .i64 M.start,.slice fa M.final.length fc,.slice aa M.arcs.length ac] 98)).alloc (.cells (madeCells #[.int .i64 0] n) 3)).alloc (.cells #[.slice (some ⟨w.heap.size+1,0,none⟩) n n] 79)) #[.func (.func 162) #[] #[.pointer (some ⟨w.heap.size+2,0,none⟩),.pointer (some ⟨w.heap.size,0,none⟩),.pointer (some ⟨w.heap.size+3,0,none⟩)]] T;simp only[size_alloc]at this;exact⟨_,this _⟩
 have J:Below w.heap.size w C:=by
  rw[<-o];exact(((bX.alloc bW _).alloc (by simp) _).alloc (by simp;omega) _).alloc (by simp;omega) _
 have aF:C.heap.size=d+4:=by rw[<-o];simp[l]
 have y:=G.below J bW;rw[l]at y;have U:∀p,0<M.arcs.length->aa=some p->p.block<d:=fun p hp e=>by
  obtain⟨b,off,e',hb,_⟩:=G (by rw[cT];omega);rw[e]at e';cases e';show b<d;omega
 clear o V;rw[l];have E:=bU k0 k1 k2 k3 y;have F:=bQ J l;clear k0 k1 k2 k3 y J G l X Y Z Q;go_loopw [12] (fun i wr=>∃(k:Nat) (sn:List Int),i= .int .i64 k/\k<=n/\sn.length=n/\lS M sn/\oS sn/\(∀u:Nat,sn[u]?≠some 1)/\(∀u:Nat,u<k->sn[u]?=some 2)/\Blk wr (d+1) (nums sn).toArray 3/\Chg (fun k=>k=d+1) C wr) (fun i _=>n-(intOf i).toNat);case atStart=>
  refine⟨0,replicate n 0,rfl,zero_le _,by simp,⟨fun u t hu=>?_,fun u hu=>?_⟩,fun c f=> .inl (eq_of_mem_replicate f),fun u hu=>?_,fun u hu=>absurd hu (not_lt_zero _),E.out.2.1,Chg.refl _ _⟩
  .have:=eq_of_mem_replicate (mem_of_getElem? hu);cases this
  .have:=eq_of_mem_replicate (mem_of_getElem? hu);cases this
  .have:=eq_of_mem_replicate (mem_of_getElem? hu);cases this
 case round=>
  obtain⟨k,sn,rfl,aC,z,s,g,j,m,q,f⟩:=hrel;have ad:=F.out.1.trans (f.below (B:=w.heap.size) (fun i Q=>by have:=F.out.2;omega) F.out.1.size);by_cases hk:k<n
  .have ar:=(E.out.2.2.1.chg f (by omega)).cell 0;have tc:=q.cell k;have S:(nums sn).toArray[k]?=some (.int .i64 sn[k]):=by simp[nums,z,hk]
   rw[S]at tc;obtain⟨T,O⟩:=E.out.2.2.2.1;have vc:=(O.chg f (by omega)).cell 0;simp only[getElem?_toArray,getElem?_cons_zero]at ar vc;obtain⟨D,N⟩:∃D,D=sn[k]:=⟨_,rfl⟩;rw[<-N]at tc;have x:=bP (show sn[k]?=some D by rw[N];exact getElem?_eq_getElem (by omega));clear S N;rcases g D (mem_of_getElem? x.out)with rfl |rfl |rfl
   .have aE:=f.size;have hQ:=Cp M Hv.out (d+2) d (d+3) (d+1) ⟨by omega,by omega,by omega⟩ fa fc aa ac (fun h0 p hp=>by have:=U p h0 hp;omega) (sn.count 0) k sn wr bW (by rw[z,hn]) x.out s g (fun u hu=>absurd hu (j u)) q (by rw[z];exact E.out.2.2.1.chg f (by omega)) (by rw[hn];exact E.out.1.chg f (by omega)) ⟨T,O.chg f (by omega)⟩
     ((E.out.2.2.2.2.chg f (by omega) (fun h0 p hp=>by have:=U p (by rw[cT]at h0;omega) hp;omega)).more (by omega))
    have HQ:=bP hQ;have H:=bV s g j m q f;clear hQ s g j m q f O;go_wp2_with (go_at_call 162;refine HQ.out.mono ?_;rintro e w4 ⟨r,ao,rfl,k1,k2,k3,k4,k5⟩;have L:=H.out.2.2.2.2.2.trans k3;have ak:=F.out.1.trans (L.below (B:=w.heap.size) (fun i Q=>by have:=F.out.2;omega) F.out.1.size);have I:=bU k1 k2 L k4 k5;clear k1 k2 k3 k4 k5 L;rcases r with _ |_)
    .have A:=I.out.2.2.2.2 (by trivial);refine⟨⟨k+1,ao,by go_num,by omega,I.out.2.1.trans z,A.ok,A.aQ,fun u hu=>H.out.2.2.1 u ((A.aw.opens u).1 hu),fun u hu=>?_,I.out.1,I.out.2.2.1⟩,by simp[intOf];omega⟩;rcases Nat.lt_succ_iff_lt_or_eq.1 hu with hu |rfl
     .exact A.aw.done u (H.out.2.2.2.1 u hu)
     .exact A.self
    .have ae:=bP (I.out.2.2.2.1 (by trivial));go_ret;exact⟨dP ae.out,ak⟩
   .exact absurd x.out (j k)
   .have H:=bV s g j m q f;clear s g j m q f;go_wp2_with fail;refine⟨⟨k+1,sn,by go_num,by omega,z,H.out.1,H.out.2.1,H.out.2.2.1,fun u hu=>?_,H.out.2.2.2.2.1,H.out.2.2.2.2.2⟩,by simp[intOf];omega⟩;rcases Nat.lt_succ_iff_lt_or_eq.1 hu with hu |rfl
    .exact H.out.2.2.2.1 u hu
    .exact x.out
  .obtain rfl:k=n:=by omega
   have R:=bP (show¬eJ M from BH s (fun a G=>(Hv.out.arcs a G).1) (fun u hu=>m u (by omega)));clear s g j m q f;go_wp2_with fail;go_ret;exact⟨cj R.out,ad⟩
end
end Go.Proofs.YtmhdgddjeadjjaaGreatDoor
