/- A part of the proof: what the claim reaches. -/
import Derived.Test.YtmhdgddjeadjjaaGreatDoorP39
namespace Go.Proofs.YtmhdgddjeadjjaaGreatDoor
open _root_.List Go.Lib _root_.Nat Go.World _root_.Int Go.Proofs.Tryz
variable {p:List MemPlace}{cs:List Value}{b0:Nat}
section
open Go.ChangeShapes Go.WideShapes Go.ChangeAt Go.RowKit Go.Joins Go.Deep
section
variable {H : Type} {enc : TypeId × Value → H} {w : World}
set_option maxRecDepth 100000
theorem EU:prog.cellsOf 83=3:=by kernel_rfl
theorem EW:prog.cellsOf 91=3:=by kernel_rfl
theorem EX:prog.cellsOf 29=1:=by kernel_rfl
theorem EV:prog.cellsOf 79=1:=by kernel_rfl
theorem Ew:prog.cellsOf 89=1:=by kernel_rfl
theorem Fm:prog.cellsOf 51=4:=by kernel_rfl
theorem Ai {n:Nat}{y:DataW H×List MemPlace}(h:DataW.trod enc prog w 0 (fun _=>true) true n 83 cs=some y)(f:cs.length=3):∃A:cr,cH w w.heap.size (.agg cs.toArray) A:=by
 obtain⟨x0,x1,j,m,_,_,t0,t1,t2⟩:=trod_struct3 underlying83 h;match cs,f with
 |[k0,k1,k2],_=>
  simp only[c9,EX,EV,drop_zero,drop_succ_cons,take_succ_cons,take_zero]at t0 t1 t2;obtain⟨s0,e0,_,z0⟩:=DataW.trod_string underlying9 t0;obtain⟨a,c,l,rfl,i,z2,h1⟩:=uB t1;obtain⟨b,d,g,rfl,z3,e⟩:=BS t2;simp only[cons.injEq,and_true]at e0;subst e0;exact⟨⟨s0,l,g⟩,a,c,b,d,rfl,z0,i,z3,z2,h1,e⟩
theorem Ak {n:Nat}{y:DataW H×List MemPlace}(h:DataW.trod enc prog w 0 (fun _=>true) true n 91 cs=some y)(d:cs.length=3):∃R:dj,dY w w.heap.size (.agg cs.toArray) R:=by
 obtain⟨x0,x1,g,m,_,_,t0,t1,t2⟩:=trod_struct3 underlying91 h;match cs,d with
 |[k0,k1,k2],_=>
  simp only[c9,Ew,drop_zero,drop_succ_cons,take_succ_cons,take_zero]at t0 t1 t2;obtain⟨s0,e0,_,z0⟩:=DataW.trod_string underlying9 t0;obtain⟨s1,b,_,f⟩:=DataW.trod_string underlying9 t1;obtain⟨a,c,l,rfl,z2,z3,e⟩:=Aj t2;simp only[cons.injEq,and_true]at e0 b;subst e0 b;exact⟨⟨s0,s1,l⟩,a,c,rfl,z0,f,z2,z3,e⟩
theorem BV {n:Nat}{y:DataW H×List MemPlace}(h:DataW.trod enc prog w 0 (fun _=>true) true n 51 cs=some y)(e:cs.length=4):∃r:Sht,cs=r.cells/\r.fits:=by
 obtain⟨x0,x1,g,x3,m,_,_,t0,t1,t2,t3⟩:=trod_struct4 underlying51 h;match cs,e with
 |[k0,k1,k2,k3],_=>
  simp only[c9,c3,drop_zero,drop_succ_cons,take_succ_cons,take_zero]at t0 t1 t2 t3;obtain⟨s0,e0,_,z0⟩:=DataW.trod_string underlying9 t0;obtain⟨s1,a,_,f⟩:=DataW.trod_string underlying9 t1;obtain⟨s2,c,_,z2⟩:=DataW.trod_string underlying9 t2;obtain⟨b,d,_⟩:=DataW.trod_int underlying3 t3;simp only[cons.injEq,and_true]at e0 a c d;subst e0 a c d;exact⟨⟨s0,s1,s2,b⟩,rfl,z0,f,z2⟩
theorem Am {α:Type}[Inhabited α]{t e:TypeId}{k:Nat}{cells:α->List Value}{Ok:α->Prop}(L:prog.underlying t=some (.slice e))(hk:prog.cellsOf e=k)(A:0<k)(z:∀x,(cells x).length=k)
  (g:∀{n:Nat} {cs:List Value} {y:DataW H×List MemPlace},DataW.trod enc prog w 0 (fun _=>true) true n e cs=some y->cs.length=k->∃r:α,cs=cells r/\Ok r)
  {n:Nat}{v:Value}{y:DataW H×List MemPlace}(h:DataW.trod enc prog w 0 (fun _=>true) true n t [v]=some y):
  ∃(a:Option Addr) (c:Nat) (l:List α),v= .slice a l.length c/\l.length<=maxLen/\l.length<=c/\(∀r∈l,Ok r)/\c8 w w.heap.size k a (l.map cells):=by
 rcases open_slice L h with ⟨d,_⟩ |⟨a,len,cap,m,q,D,O,d,_,P,hm,B,_,M⟩
 .exact⟨none,0,[],by simpa using d,by simp,by simp,by simp,fun h=>by simp at h⟩
 .have I:m=cap:=by simpa using B
  have each:∀i,∃r:α,i<len->Ok r/\∀j x,(cells r)[j]?=some x->w.cell? ((a.add (i*k)).add j)=some x:=fun i=>by
   by_cases b:i<len
   .obtain⟨N,h1,E⟩:=M i (by omega);rw[hk]at h1;obtain⟨_,F,G⟩:=cells?_some h1;obtain⟨r,rfl,z0⟩:=g E F;refine⟨r,fun _=>⟨z0,fun j x f=>?_⟩⟩;rw[G j (by have:=(List.getElem?_eq_some_iff.1 f).1;omega)];exact f
   .exact⟨default,fun h=>absurd h b⟩
  obtain⟨R,p⟩:=Classical.axiomOfChoice each;refine⟨some a,cap,(range len).map R,by simpa using d,by simp;omega,by simp;omega,?_,fun C=>?_⟩
  .intro r s;obtain⟨i,b,rfl⟩:=mem_map.1 s;exact(p i (mem_range.1 b)).1
  .have u:0<len:=by simpa using C
   have h1:=(p 0 u).2 0 _ (getElem?_eq_getElem (by rw[z];exact A));rw[Nat.zero_mul]at h1;have e0:(a.add 0).add 0=a:=rfl;rw[e0]at h1;have J:=cell?_spot h1;refine⟨a.block,a.off,by cases a;simp_all,nV h1,fun i r b j x f=>?_⟩;have o:i<len:=by
    have:=(List.getElem?_eq_some_iff.1 b).1;simpa using this
   have s:r=cells (R i):=by simpa [o]using b.symm
   subst s;have:=(p i o).2 j x f;rw[hU J,hU rfl]at this;exact this
instance:Inhabited Sht:=⟨⟨⟨#[]⟩,⟨#[]⟩,⟨#[]⟩,0⟩⟩
theorem BW {n:Nat}{v:Value}{y:DataW H×List MemPlace}(h:DataW.trod enc prog w 0 (fun _=>true) true n 28 [v]=some y):
  ∃(a:Option Addr) (c:Nat) (l:List Sht),v= .slice a l.length c/\l.length<=maxLen/\l.length<=c/\(∀r∈l,r.fits)/\c8 w w.heap.size 4 a (l.map Sht.cells):=
 Am underlying28 Fm (by decide) (fun _=>rfl) (fun h b=>BV h b) h
theorem uz {α:Type}{t e:TypeId}{k:Nat}{At:Value->α->Prop}(U:prog.underlying t=some (.slice e))(hk:prog.cellsOf e=k)(G:0<k)
  (u:∀{n:Nat} {cs:List Value} {y:DataW H×List MemPlace},DataW.trod enc prog w 0 (fun _=>true) true n e cs=some y->cs.length=k->∃A:α,At (.agg cs.toArray) A)
  {n:Nat}{v:Value}{y:DataW H×List MemPlace}(h:DataW.trod enc prog w 0 (fun _=>true) true n t [v]=some y):
  ∃(a:Option Addr) (c:Nat) (l:List α) (rows:List (List Value)),v= .slice a l.length c/\l.length<=maxLen/\rows.length=l.length/\c8 w w.heap.size k a rows/\∀(i:Nat) (r:List Value) (A:α),rows[i]?=some r->l[i]?=some A->r.length=k/\At (.agg r.toArray) A:=by
 haveI:Inhabited (List Value):=⟨[]⟩;let Good:List Value->Prop:=fun r=>r.length=k/\∃A:α,At (.agg r.toArray) A;rcases open_slice U h with ⟨f,_⟩ |⟨a,len,cap,m,q,D,X,f,_,Y,hm,J,_,V⟩
 .exact⟨none,0,[],[],by simpa using f,by simp,rfl,(fun h=>by simp at h),fun i r A h=>by simp at h⟩
 .have S:m=cap:=by simpa using J
  have each:∀i,∃r:List Value,i<len->Good r/\∀j x,r[j]?=some x->w.cell? ((a.add (i*k)).add j)=some x:=fun i=>by
   by_cases d:i<len
   .obtain⟨C,h1,O⟩:=V i (by omega);rw[hk]at h1;obtain⟨_,F,P⟩:=cells?_some h1;refine⟨C,fun _=>⟨⟨F,u O F⟩,fun j x p=>?_⟩⟩;rw[P j (by have:=(List.getElem?_eq_some_iff.1 p).1;omega)];exact p
   .exact⟨default,fun h=>absurd h d⟩
  obtain⟨R,g⟩:=Classical.axiomOfChoice each;by_cases z:0<len
  .obtain⟨A0,_⟩:=(g 0 z).1.2;have o:∀i,∃A:α,i<len->At (.agg (R i).toArray) A:=fun i=>by
    by_cases d:i<len
    .obtain⟨A,B⟩:=(g i d).1.2;exact⟨A,fun _=>B⟩
    .exact⟨A0,fun h=>absurd h d⟩
   obtain⟨L,Q⟩:=Classical.axiomOfChoice o;refine⟨some a,cap,(range len).map L,(range len).map R,by simpa using f,by simp;omega,by simp,fun _=>?_,fun i r A s B=>?_⟩
   .have I:=(g 0 z).1.1;have h1:=(g 0 z).2 0 _ (getElem?_eq_getElem (by rw[I];exact G));rw[Nat.zero_mul]at h1;have e0:(a.add 0).add 0=a:=rfl;rw[e0]at h1;have T:=cell?_spot h1;refine⟨a.block,a.off,by cases a;simp_all,nV h1,fun i r d j x p=>?_⟩;have b:i<len:=by
     have:=(List.getElem?_eq_some_iff.1 d).1;simpa using this
    have s:r=R i:=by simpa [b]using d.symm
    subst s;have:=(g i b).2 j x p;rw[hU T,hU rfl]at this;exact this
   .have b:i<len:=by
     have:=(List.getElem?_eq_some_iff.1 s).1;simpa using this
    have M:r=R i:=by simpa [b]using s.symm
    have N:A=L i:=by simpa [b]using B.symm
    subst M N;exact⟨(g i b).1.1,Q i b⟩
  .have E:len=0:=by omega
   subst E;exact⟨some a,cap,[],[],by simpa using f,by simp,rfl,(fun h=>by simp at h),fun i r A h=>by simp at h⟩
theorem BR {v:Value}{d:DataW H}(c:Value.okWide prog w .any b0 27 v)(h:DataW.Trod enc prog w 0 (fun _=>true) true 27 v d p):
  ∃(lang:ByteArray) (i:Int) (text:ByteArray),v= .agg #[.string lang,.int .i64 i,.string text]/\lang.size<=maxLen/\text.size<=maxLen:=by
 obtain⟨v0,v1,v2,y0,y1,y2,n,rfl,_,_,t0,t1,t2⟩:=open_agg3 underlying27 (by kernel_rfl) (by kernel_rfl) c h;obtain⟨s0,e0,_,z0⟩:=DataW.trod_string underlying9 t0;obtain⟨e,a,_⟩:=DataW.trod_int underlying3 t1;obtain⟨s2,b,_,z2⟩:=DataW.trod_string underlying9 t2;simp only[cons.injEq,and_true]at e0 a b;subst e0 a b;exact⟨s0,e,s2,rfl,z0,z2⟩
theorem BQ {v:Value}{d:DataW H}(u:Value.okWide prog w .any b0 25 v)(h:DataW.Trod enc prog w 0 (fun _=>true) true 25 v d p):
  ∃b:cC,dm w w.heap.size v b:=by
 obtain⟨v0,v1,y0,y1,n,rfl,_,_,t0,t1⟩:=open_agg2 underlying25 (by kernel_rfl) (by kernel_rfl) u h;obtain⟨a,c,l,rows,rfl,z0,y,z2,z3⟩:=uz (At:=cH w w.heap.size) underlying22 EU (by decide) (fun h g=>Ai h g) t0;obtain⟨s,t,x,e,rfl,k,m,o,q⟩:=uz (At:=dY w w.heap.size) underlying23 EW (by decide) (fun h g=>Ak h g) t1;exact⟨⟨l,x⟩,a,c,s,t,rfl,z0,k,⟨rows,y,z2,fun i r A j f=>(z3 i r A j f).2⟩,⟨e,m,o,fun i r A j f=>(q i r A j f).2⟩⟩
theorem Al {v:Value}{d:DataW H}(b:Value.okWide prog w .any b0 28 v)(h:DataW.Trod enc prog w 0 (fun _=>true) true 28 v d p):
  ∃(a:Option Addr) (c:Nat) (l:List Sht),v= .slice a l.length c/\l.length<=maxLen/\l.length<=c/\(∀r∈l,r.fits)/\c8 w w.heap.size 4 a (l.map Sht.cells):=by
 obtain⟨a,n,c,rfl⟩:=okWide_slice underlying28 b;obtain⟨m,h⟩:=h;exact BW h
theorem An {v:Value}{d:DataW H}(b:Value.okWide prog w .any b0 29 v)(h:DataW.Trod enc prog w 0 (fun _=>true) true 29 v d p):
  ∃(a:Option Addr) (c:Nat) (l:List ByteArray),v= .slice a l.length c/\l.length<=maxLen/\(∀s∈l,s.size<=maxLen)/\b8 w w.heap.size a (strs l):=by
 obtain⟨a,n,c,rfl⟩:=okWide_slice underlying29 b;obtain⟨m,h⟩:=h;exact uB h
end
end
section
open Go.RowKit Go.Shelf Classical
theorem mN {b:cC}{lang:ByteArray}{i:Int}{t:List UInt8}{s:ByteArray}{err:Int}{w w':World}(hK:fF b lang i t (bl s) err)(a:Below w.heap.size w w'):np b lang i t w (.returned (.tuple #[.string s,.int .i64 err])) w':=⟨s,err,rfl,hK,a⟩
set_option maxRecDepth 100000
set_option maxHeartbeats 4000000
theorem Ao (b:cC)(v:Value)(lang text:ByteArray)(i:Int)(ag:lang.size<=maxLen)(ai:text.size<=1000)(w:World)(h:dm w w.heap.size v b):
  Calls prog 8 #[v,jY lang i text] w (np b lang i (bl text) w):=by
 have V:=h;obtain⟨a,c,R,T,rfl,hn,hr,hA,hR⟩:=h;unfold maxLen at hn;unfold jY;obtain⟨x,y⟩:∃x:World,x=(w.alloc (.cells #[.slice a b.ae.length c,.slice R b.rules.length T] 25)).alloc (.cells #[.string lang,.int .i64 i,.string text] 27):=⟨_,rfl⟩;have az:Below w.heap.size w x:=by rw[y];exact(bX.alloc bW _).alloc (by simp) _
 have E:x.heap.size=w.heap.size+2:=by rw[y];simp
 have aa:Blk x w.heap.size #[.slice a b.ae.length c,.slice R b.rules.length T] 25:=by rw[y];exact(Blk.new _ _ _).alloc _
 have L:Blk x (w.heap.size+1) #[.string lang,.int .i64 i,.string text] 27:=by
  rw[y];have:=Blk.new (w.alloc (.cells #[.slice a b.ae.length c,.slice R b.rules.length T] 25)) #[.string lang,.int .i64 i,.string text] 27;simpa using this
 have HV:=bP (p9 b _ lang text i ag ai x ((V.below az bW).more (by omega)));have A:=bP (fun(wr:World) (m:Below x.heap.size x wr)=>have r:=az.trans (m.mono (by omega));(show(wr.cell? ⟨w.heap.size,0,none⟩=some (.slice a b.ae.length c)/\wr.cell? ⟨w.heap.size,1,none⟩=some (.slice R b.rules.length T))/\(wr.cell? ⟨w.heap.size+1,0,none⟩=some (.string lang)/\wr.cell? ⟨w.heap.size+1,1,none⟩=some (.int .i64 i)/\wr.cell? ⟨w.heap.size+1,2,none⟩=some (.string text))/\dm wr wr.heap.size (.agg #[.slice a b.ae.length c,.slice R b.rules.length T]) b/\Below w.heap.size w wr from
  ⟨⟨(aa.below m (by omega)).cell 0,(aa.below m (by omega)).cell 1⟩,⟨(L.below m (by omega)).cell 0,(L.below m (by omega)).cell 1,(L.below m (by omega)).cell 2⟩,(V.below r bW).more r.size,r⟩))
 clear V hA hR aa L E;go_enter func8,ntmps8;go_upto_region 1 with (fail);rw[<-y];clear y;obtain⟨⟨x0,x1⟩,⟨x2,x3,x4⟩, -, -⟩:=A.out x bX;by_cases z:dB b lang i (bl text);case neg=>
  rw[decide_eq_false z]at HV;have l:=bP (show fF b lang i (bl text) (bl ⟨#[]⟩) 1 from .inl ⟨z,rfl,rfl⟩);clear z;go_wp2_with fail;refine HV.out.mono ?_;rintro e u ⟨rfl,C⟩;have Hb:=bP (A.out u C).2.2.2;clear C;go_wp2_with fail;go_ret2;exact mN l.out Hb.out
 rw[decide_eq_true z]at HV;have I:=bP z;clear z;go_wp2_with fail;refine HV.out.mono ?_;rintro e u ⟨rfl,C⟩;have f:=bP C;clear x0 x1 x2 x3 x4 C;obtain⟨⟨x0,x1⟩,⟨x2,x3,x4⟩, -, -⟩:=A.out u f.out;have al:=bP (nO text (by omega) u);go_wp2_with fail;refine al.out.mono ?_;rintro e w3 ⟨sv,t,rfl,N,n,ao⟩;obtain⟨va,vc,rfl, -, -⟩:=b8.ah n;have aU:t.length<=1000:=by
  have:=nj (bl text);rw[<-N,length_map,b9]at this;omega
 have O:=bT (j8.start (Wr:=gp b i) N) n ao (show(cA (bl text)).length=t.length by rw[<-N,length_map]);clear x0 x1 x2 x3 x4 N n ao al;go_wp2_with fail;go_loopw [7] (fun j wr=>∃(k:Nat) (outs:List ByteArray),k<=t.length/\j= .int .i64 k/\outs.length=t.length/\j8 (gp b i) (cA (bl text)) k outs/\wr.ownsRow u.heap.size 9 1 (.slice va t.length vc) t.length (strs outs)/\Below u.heap.size u wr) (fun j _=>t.length-(intOf j).toNat);case atStart=>exact⟨0,t,zero_le _,rfl,rfl,O.out.1,O.out.2.1,O.out.2.2.1⟩
 case round=>
  obtain⟨k,outs,hk,rfl,ax,ad,n,m⟩:=hrel;have d:=bT ax ad n m;clear ax ad n m;by_cases aR:k<t.length;case neg=>
   obtain rfl:k=t.length:=by omega
   have aw:=d.out.2.1.done (by rw[O.out.2.2.2];exact bW);obtain⟨a9,c9,e9, -,D⟩:=b8.ah d.out.2.2.1;cases e9
   have ay:∀s∈outs,s.size<=1000:=fun s hs=>by
    obtain⟨j,hj⟩:=getElem?_of_mem hs;obtain⟨ar, -⟩:=List.getElem?_eq_some_iff.1 hj;have aQ:j<(cA (bl text)).length:=by rw[O.out.2.2.2,<-d.out.1];exact ar
    obtain⟨B,V,hr⟩:=zu ((d.out.2.1.2 j s hj).2 (by rw[<-d.out.1];exact ar) _ (getElem?_eq_getElem aQ));have:=DB (I.out.be.scr.aI B (mem_of_getElem? V)) hr;rw[b9]at this;omega
   have hJ:=rT outs va vc (by rw[d.out.1];exact aU) ay wr D;rw[d.out.1]at hJ;have HJ:=bP hJ;have an:=bP aw;have H:=bP (A.out wr (f.out.trans (d.out.2.2.2.mono f.out.size))).2.2.2;clear aw D ay hJ;go_wp2_with fail;refine HJ.out.mono ?_;rintro e w5 ⟨⟨jt,rfl,au,aP⟩,aT⟩;subst aT;have Q:=bP au;have bh:jt.size<=1001000:=by omega
   clear au aP;by_cases U:jt.size<=120
   .have l:=bP (show fF b lang i (bl text) (bl jt) 0 from .inr ⟨I.out,outs,0,an.out,.inr (.inr ⟨rfl,by rw[<-Q.out,b9];exact U,Q.out,rfl⟩)⟩);go_wp2_with fail;go_ret2;exact mN l.out H.out
   .have aC:120<jt.size:=by omega
    have l:=bP (show fF b lang i (bl text) (bl ⟨#[]⟩) 2 from .inr ⟨I.out,outs,0,an.out,.inr (.inl ⟨rfl,by rw[<-Q.out,b9];exact aC,rfl,rfl⟩)⟩);clear U;go_wp2_with fail;go_ret2;exact mN l.out H.out
  obtain⟨ra,rc,e9, -,D⟩:=b8.ah d.out.2.2.1;cases e9
  obtain⟨g,o,rfl,aN,hc⟩:=D.strs (by rw[d.out.1];omega);obtain rfl:o=0:=by
   rcases d.out.2.2.1.2 with ⟨e0,_⟩ |⟨g',bk,cur,e0,_⟩
   .cases e0
   .cases e0;rfl
  have ab:k<outs.length:=by rw[d.out.1];exact aR
  obtain⟨s0,E⟩:∃s,outs[k]=s:=⟨_,rfl⟩;have c0:=hc k ab;rw[E,Nat.zero_add]at c0;have HS:=bP (show outs[k]?=some s0 by rw[getElem?_eq_getElem ab,E]);have aq:wr.frozen? ⟨g,k,none⟩=false:=d.out.2.2.1.frozenAt k;have bj:s0.size<=1000:=by
   have h1:=d.out.2.1.at HS.out;have h2:(bl s0).length<=(cA (bl text)).flatten.length:=by
    obtain⟨p,q,e⟩:=append_of_mem (mem_of_getElem? h1);rw[e,flatten_append,flatten_cons];simp only[length_append];omega
   have h3:=lC (bl text);rw[b9]at h2 h3;omega
  have G:=bP (fun(w':World) (Y:Below wr.heap.size wr w')=>And.intro (A.out w' (f.out.trans ((d.out.2.2.2.trans (Y.mono d.out.2.2.2.size)).mono f.out.size))).1 (And.intro (A.out w' (f.out.trans ((d.out.2.2.2.trans (Y.mono d.out.2.2.2.size)).mono f.out.size))).2.1 (show w'.cell? ⟨g,k,none⟩=some (.string s0)from(Y.cell (p:=⟨g,_,none⟩) aN).trans c0)));have HW:=bP (fun(w':World) (Y:Below wr.heap.size wr w')=>xS b _ i s0 (by unfold maxLen;omega) w' (A.out w' (f.out.trans ((d.out.2.2.2.trans (Y.mono d.out.2.2.2.size)).mono f.out.size))).2.2.1);clear E ab hc D c0 aq;go_upto_region 7 with (fail);go_cut [8,9] (fun p q wx=>∃(s:ByteArray) (err:Int),p= .string s/\q= .int .i64 err/\fX b i 0 s0 s err/\Below wr.heap.size wr wx);case first=>
   refine wp_region_held_drew (S:=fun w'=>Below wr.heap.size wr w') (by kernel_rfl) (Go.below_drewN (Below.refl _ wr) 1) (fun aW=>?_);have F:Below wr.heap.size wr _:=Go.below_drewN (Below.refl _ wr) 1;refine tk [0,1,2,3,4,5,6] ?_;repeat ((refine tkt (v:=?_) ?_ ?_;rotate_left;·intro w' X;obtain⟨⟨s0,s1⟩,⟨s2,s3,s4⟩,s5⟩:=G.out w' X;go_simp<;>with_reducible rfl);try simp only[pS])
   refine tkn ?_;refine rd1 7 (fun K hK=>?_);go_simp;go_at_call 25;refine(HW.out _ (F)).mono ?_;rintro e bm ⟨s,err,rfl,M,aE⟩;have Z:=Below.trans (F) (aE.mono (Below.size (F)));refine hK.out _ _ Z (fun _=>?_);clear hK K;try simp only[pS]
   refine tk [8,9,10,11,12] ?_;repeat ((refine tkt (v:=?_) ?_ ?_;rotate_left;·intro w' X;obtain⟨⟨s0,s1⟩,⟨s2,s3,s4⟩,s5⟩:=G.out w' X;go_simp<;>with_reducible rfl);try simp only[pS])
   refine tkn ?_;refine wpAnyH_done (by kernel_rfl) ?_ _;go_wp2_with fail;go_meet;exact⟨s,err,rfl,rfl,M,Z⟩
  case rest=>
   obtain⟨s,err,rfl,rfl,M,J⟩:=hcut;have r:gp b i (bl s0) s err:=by unfold gp;rw[show bs (bl s0)=s0 from cY (cZ _)];exact M
   have P:=bP (cJ d.out.2.2.1 J);have ak:=bP (d.out.2.2.2.trans (J.mono d.out.2.2.2.size));have H:=bP (A.out wc (f.out.trans (ak.out.mono f.out.size))).2.2.2;obtain⟨-, -,c0⟩:=G.out wc J;have aq:wc.frozen? ⟨g,k,none⟩=false:=P.out.frozenAt k;have aM:u.heap.size<=g:=(P.out.lt g rfl).1;clear J M G HW;by_cases he:err=0;case neg=>
    have d1:(err != 0)=true:=by simpa using he
    have l:=bP (show fF b lang i (bl text) (bl ⟨#[]⟩) err from .inr ⟨I.out,[],err,d.out.2.1.bad HS.out he r,.inl ⟨he,rfl,rfl⟩⟩);clear he r;go_wp2_with fail;go_ret2;exact mN l.out H.out
   subst he;have HE:=bP (d.out.2.1.step HS.out r);have HN:=bP (show(wc.setCell ⟨g,k,none⟩ (.string s)).ownsRow u.heap.size 9 1 (.slice (some ⟨g,0,none⟩) t.length vc) t.length (strs (outs.set k s))/\Below u.heap.size u (wc.setCell ⟨g,k,none⟩ (.string s))from
    ⟨by have:=oj (k:=k) P.out (.string s);rw[show strs (outs.set k s)=(strs outs).set k (.string s) by simp[strs,map_set]];exact this,ak.out.setCell (p:=⟨g,k,none⟩) aM _⟩)
   clear r;go_wp2_with fail;exact⟨⟨k+1,outs.set k s,by omega,by go_num,by rw[length_set];exact d.out.1,HE.out,HN.out.1,HN.out.2⟩,by simp[intOf];omega⟩
end
end Go.Proofs.YtmhdgddjeadjjaaGreatDoor
