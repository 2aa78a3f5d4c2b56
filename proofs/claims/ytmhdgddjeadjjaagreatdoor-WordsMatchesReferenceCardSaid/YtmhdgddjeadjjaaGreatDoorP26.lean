/- A part of the proof: what the claim reaches. -/
import Derived.Test.YtmhdgddjeadjjaaGreatDoorP19
import Derived.Test.YtmhdgddjeadjjaaGreatDoorP22
namespace Go.Proofs.YtmhdgddjeadjjaaGreatDoor
open _root_.List Go.Lib _root_.Nat Go.World _root_.Int Go.Proofs.Tryz
variable {e f:Int}
section
open Go Classical
def gu (b:cC)(i j:Nat)(r:dj):Prop:=r∈b.rules/\∃A B,b.no r.src i A/\b.no r.dst j B
def fg (b:cC)(i j:Nat)(M:cu):Prop:=∃A,b.ae[i]?=some A/\((i=j/\mD A.bls M)\/(i≠j/\∃r,gu b i j r/\gV r A M))
def rU (b:cC)(i j:Nat)(M:cu)(err:Int):Prop:=
 ((i=j\/∃r,gu b i j r)/\fg b i j M/\err=0)\/(¬(i=j\/∃r,gu b i j r)/\∃X Y Z,fg b i 0 X/\fg b j 0 Y/\vl Y Z/\qm X Z M err)
def fK (b:cC)(x y:Int)(M:cu)(err:Int):Prop:=
 (¬(cU b/\0<=x/\x<b.ae.length/\0<=y/\y<b.ae.length)/\err=1/\M=ff)\/
 (cU b/\∃i j:Nat,x=i/\y=j/\i<b.ae.length/\j<b.ae.length/\rU b i j M err)
theorem gV.uniq {R:dj}{A:cr}{M N:cu}(h:gV R A M)(k:gV R A N):M=N:=by
 obtain⟨m1,m2,m3,m4⟩:=M;obtain⟨e,f,g,i⟩:=N;have a:m1=e:=h.ag.trans k.ag.symm;have b:m2=f:=h.start.trans k.start.symm;have c:m3=g:=h.final.trans k.final.symm;have d:m4=i:=h.inc.ext k.inc (fun x=>(h.mem x).trans (k.mem x).symm);rw[a,b,c,d]
theorem vl.uniq {M N a:cu}(h:vl M N)(k:vl M a):N=a:=by
 obtain⟨m1,m2,m3,m4⟩:=N;obtain⟨f,g,i,j⟩:=a;have b:m1=f:=h.ag.trans k.ag.symm;have c:m2=g:=h.start.trans k.start.symm;have d:m3=i:=h.final.trans k.final.symm;have e:m4=j:=h.inc.ext k.inc (fun x=>(h.mem x).trans (k.mem x).symm);rw[b,c,d,e]
section
variable {b : cC} {i j : Nat} {M N : cu}
theorem cU.bu (t:cU b){r s:dj}(h:gu b i j r)(k:gu b i j s):r=s:=by
 obtain⟨h1,A,B,c,d⟩:=h;obtain⟨k1,n,B',l,m⟩:=k;have o:A=n:=Option.some.inj (c.1.symm.trans l.1);have p:B=B':=Option.some.inj (d.1.symm.trans m.1);subst o p;have e:(r.src,r.dst)=(s.src,s.dst):=by rw[<-c.2,<-d.2,l.2,m.2]
 obtain⟨x,u⟩:=getElem?_of_mem h1;obtain⟨y,v⟩:=getElem?_of_mem k1;have q:=t.rls.aV;obtain⟨f,ex⟩:=List.getElem?_eq_some_iff.1 u;obtain⟨g,a⟩:=List.getElem?_eq_some_iff.1 v;have:x=y:=by
  refine(getElem_inj (h₀:=by simpa using f) (h₁:=by simpa using g) q).1 ?_;rw[getElem_map,getElem_map,ex,a];exact e
 subst this;exact ex.symm.trans a
theorem cU.aL (a:cU b){r:dj}{A B:cr}(h:gu b i j r)(p:b.ae[i]?=some A)(q:b.ae[j]?=some B):i≠j/\dr r A B:=by
 obtain⟨h1,u,B',s,t⟩:=h;obtain⟨v,w,X,Y,d,e,f,c⟩:=a.rls.rules r h1;obtain⟨g,k⟩:=cC.aq a.scr.names d s;obtain⟨l,m⟩:=cC.aq a.scr.names e t;subst g k l m;have n:A=X:=Option.some.inj (p.symm.trans d.1);have o:B=Y:=Option.some.inj (q.symm.trans e.1);subst n o;exact⟨f,c⟩
theorem fg.uniq (g:cU b)(h:fg b i j M)(k:fg b i j N):M=N:=by
 obtain⟨A,c,h⟩:=h;obtain⟨l,a,k⟩:=k;obtain rfl:=Option.some.inj (c.symm.trans a);rcases h with ⟨e,h⟩ |⟨e,r,d,h⟩<;>rcases k with ⟨e',k⟩ |⟨e',s,f,k⟩
 .exact h.uniq k
 .exact absurd e e'
 .exact absurd e' e
 .obtain rfl:=g.bu d f;exact h.uniq k
theorem rU.uniq (a:cU b)(h:rU b i j M e)(k:rU b i j N f):M=N/\e=f:=by
 rcases h with ⟨h1,c,rfl⟩ |⟨h1,X,Y,Z,d,g,l,m⟩<;>rcases k with ⟨k1,k2,rfl⟩ |⟨k1,r,s,t,n,o,p,q⟩
 .exact⟨c.uniq a k2,rfl⟩
 .exact absurd h1 k1
 .exact absurd k1 h1
 .obtain rfl:=d.uniq a n;obtain rfl:=g.uniq a o;obtain rfl:=l.uniq p;exact m.uniq q
theorem fK.uniq {x y:Int}(h:fK b x y M e)(k:fK b x y N f):M=N/\e=f:=by
 rcases h with ⟨h1,rfl,rfl⟩ |⟨a,i,j,rfl,rfl,m,n,h⟩<;>rcases k with ⟨k1,rfl,rfl⟩ |⟨k0,g,l,c,d,o,p,k⟩
 .exact⟨rfl,rfl⟩
 .subst c d;exact absurd ⟨k0,by omega,by omega,by omega,by omega⟩ h1
 .exact absurd ⟨a,by omega,by omega,by omega,by omega⟩ k1
 .obtain rfl:i=g:=by omega
  obtain rfl:j=l:=by omega
  exact h.uniq a k
def fq (B:cr)(t:ByteArray):Prop:=(cB B.bls (bl t)).err=0
def fX (b:cC)(x y:Int)(word s:ByteArray)(err:Int):Prop:=
 ∃M a,fK b x y M a/\((a≠0/\bl s=[]/\err=a)\/(a=0/\∃A B,b.ae[x.toNat]?=some A/\b.ae[y.toNat]?=some B/\∃f d,nk A word f d/\
  ((d≠0/\bl s=[]/\err=1)\/(d=0/\∃ts c,et M (bl f) ts c/\((c≠0/\bl s=[]/\err=c)\/(c=0/\jk (fq B) ts s err))))))
theorem et.uniq {x:List UInt8}{ts us:List ByteArray}(h:et M x ts e)(k:et M x us f):ts=us/\e=f:=by
 rcases h with ⟨h1,rfl,rfl⟩ |⟨h1,h⟩<;>rcases k with ⟨k1,rfl,rfl⟩ |⟨k1,k⟩
 .exact⟨rfl,rfl⟩
 .exact absurd k1 h1
 .exact absurd h1 k1
 rcases h with ⟨a,rfl,rfl⟩ |⟨a,h⟩<;>rcases k with ⟨k2,rfl,rfl⟩ |⟨k2,k⟩
 .exact⟨rfl,rfl⟩
 .exact absurd a k2
 .exact absurd k2 a
 rcases h with ⟨⟨z,i,b⟩,rfl,rfl⟩ |⟨d,rfl,g,hm⟩<;>rcases k with ⟨⟨m,l,c⟩,rfl,rfl⟩ |⟨k3,rfl,ks,j⟩
 .exact⟨rfl,rfl⟩
 .exact absurd (k3 z i) b
 .exact absurd (d m l) c
 .exact⟨g.ext ks (fun t=>(hm t).trans (j t).symm),rfl⟩
theorem fX.uniq {x y:Int}{word s t:ByteArray}(h:fX b x y word s e)(k:fX b x y word t f):s=t/\e=f:=by
 obtain⟨M,w,j,h⟩:=h;obtain⟨N,f1,p,k⟩:=k;obtain⟨rfl,rfl⟩:=j.uniq p;have em:∀{s t:ByteArray},bl s=[]->bl t=[]->s=t:=fun h k=>cY (h.trans k.symm);rcases h with ⟨a,h1,rfl⟩ |⟨a,A,B,g,i,D,z,l,h⟩<;>rcases k with ⟨k0,k1,rfl⟩ |⟨k0,v,B',n,o,u,f2,q,k⟩
 .exact⟨em h1 k1,rfl⟩
 .exact absurd k0 a
 .exact absurd a k0
 obtain rfl:=Option.some.inj (g.symm.trans n);obtain rfl:=Option.some.inj (i.symm.trans o);obtain⟨rfl,rfl⟩:=l.uniq q;rcases h with ⟨c,h1,rfl⟩ |⟨c,ts,C,m,h⟩<;>rcases k with ⟨k2,k1,rfl⟩ |⟨k2,us,f3,r,k⟩
 .exact⟨em h1 k1,rfl⟩
 .exact absurd k2 c
 .exact absurd c k2
 obtain⟨rfl,rfl⟩:=m.uniq r;rcases h with ⟨d,h1,rfl⟩ |⟨d,h⟩<;>rcases k with ⟨k3,k1,rfl⟩ |⟨k3,k⟩
 .exact⟨em h1 k1,rfl⟩
 .exact absurd k3 d
 .exact absurd d k3
 .exact h.uniq k
end
def ee:List UInt8->List UInt8->List (List UInt8)
 |[],cur=>[cur]
 |c::t,cur=>if c=32 then cur::ee t [] else ee t (cur++[c])
def partsOf (t:List UInt8):List (List UInt8):=ee t []
theorem lB:∀(t cur:List UInt8),du t cur=(ee t cur).filter (fun p=>decide (p≠[]))
 |[],cur=>by
  rw[du,ee];by_cases h:cur=[]<;>simp[h]
 |c::t,cur=>by
  rw[du,ee];by_cases a:c=32
  .rw[if_pos a,if_pos a,lB t []];by_cases h:cur=[]
   .simp[h]
   .rw[if_neg h,filter_cons_of_pos (by simpa using h)]
  .rw[if_neg a,if_neg a,lB t _]
theorem oO (t:List UInt8):cA t=(partsOf t).filter (fun p=>decide (p≠[])):=lB t []
theorem sK (t cur:List UInt8):ee t cur≠[]:=by
 induction t generalizing cur with
 |nil=>simp[ee]
 |cons c t a=>
  rw[ee];split
  .simp
  .exact a _
def dO:List (List UInt8)->List UInt8
 |[]=>[]
 |[p]=>p
 |p::q::l=>p++32::dO (q::l)
theorem sr (p:List UInt8){l:List (List UInt8)}(h:l≠[]):dO (p::l)=p++32::dO l:=by
 cases l with
 |nil=>exact absurd rfl h
 |cons q l=>rfl
theorem iT:∀(w t cur:List UInt8),32∉w->ee (w++t) cur=ee t (cur++w)
 |[],t,cur,_=>by simp
 |c::w,t,cur,h=>by
  have a:c≠32:=fun e=>h (by rw[e];exact mem_cons_self ..);rw[cons_append,ee,if_neg a,iT w t (cur++[c]) (fun q=>h (mem_cons_of_mem _ q)),append_assoc];rfl
theorem pU:∀{l:List (List UInt8)},l≠[]->(∀p∈l,32∉p)->partsOf (dO l)=l
 |[],h,_=>absurd rfl h
 |[p],_,h=>by
  have:=iT p [] [] (h p (mem_cons_self ..));rw[append_nil,nil_append]at this;show ee p []=[p];rw[this,ee]
 |p::q::l,_,h=>by
  have a:=pU (l:=q::l) (by simp) (fun r b=>h r (mem_cons_of_mem _ b));show ee (p++32::dO (q::l)) []=_;rw[iT p _ [] (h p (mem_cons_self ..)),nil_append,ee,if_pos rfl];unfold partsOf at a;rw[a]
theorem mo:∀(t cur:List UInt8),dO (ee t cur)=cur++t
 |[],cur=>by simp[ee,dO]
 |c::t,cur=>by
  rw[ee];split
  .rename_i h;rw[sr _ (sK t []),mo t [],h,nil_append]
  .rw[mo t _,append_assoc];rfl
theorem sw (t:List UInt8):dO (partsOf t)=t:=mo t []
theorem ug:∀(l:List (List UInt8)) (n:Nat),(∀p∈l,p.length<=n)->(dO l).length<=l.length*(n+1)
 |[],n,_=>by simp[dO]
 |[p],n,h=>by have:=h p (mem_cons_self ..);simp[dO];omega
 |p::q::l,n,h=>by
  have h1:=h p (mem_cons_self ..);have b:=ug (q::l) n (fun r a=>h r (mem_cons_of_mem _ a));show(p++32::dO (q::l)).length<=_;have e:(p::q::l).length=(q::l).length+1:=rfl;rw[length_append,length_cons,e,succ_mul];omega
structure dB (b:cC)(lang:ByteArray)(i:Int)(t:List UInt8):Prop where
 be:cU b
 lang:df (bl lang)=true
 script:0<=i/\i<b.ae.length
 few:(partsOf t).length<=6
 word:∀A,b.ae[i.toNat]?=some A->∀p∈partsOf t,(cB A.bls p).err=0
def lU (Wr:List UInt8->ByteArray->Int->Prop)(ws:List (List UInt8))(outs:List ByteArray)(err:Int):Prop:=
 (err=0/\outs.length=ws.length/\∀(i:Nat) (w:List UInt8) (s:ByteArray),ws[i]?=some w->outs[i]?=some s->Wr w s 0)\/
 (err≠0/\outs=[]/\∃(k:Nat) (w:List UInt8) (s:ByteArray),ws[k]?=some w/\(∀(i:Nat) (v:List UInt8),i<k->ws[i]?=some v->∃r,Wr v r 0)/\Wr w s err)
theorem lU.uniq {Wr:List UInt8->ByteArray->Int->Prop}(b:∀w s t e f,Wr w s e->Wr w t f->s=t/\e=f){ws:List (List UInt8)}{o p:List ByteArray}(h:lU Wr ws o e)(k:lU Wr ws p f):o=p/\e=f:=by
 have bad:∀{o:List ByteArray} {e:Int},(o.length=ws.length/\∀(i:Nat) (w:List UInt8) (s:ByteArray),ws[i]?=some w->o[i]?=some s->Wr w s 0)->∀{k:Nat} {w:List UInt8} {s:ByteArray},e≠0->ws[k]?=some w->¬Wr w s e:=by
  rintro o e ⟨q,h⟩ k w s he hk hw;obtain⟨n,_⟩:=List.getElem?_eq_some_iff.1 hk;have h1:=h k w o[k] hk (getElem?_eq_getElem (by omega));exact he (b _ _ _ _ _ hw h1).2
 rcases h with ⟨rfl,h⟩ |⟨he,rfl,i,w,s,a,hp,hw⟩<;>rcases k with ⟨rfl,k⟩ |⟨l,rfl,j,v,t,d,m,g⟩
 .refine⟨ext_getElem? fun i=>?_,rfl⟩;rcases Nat.lt_or_ge i ws.length with a |a
  .have h1:i<o.length:=by omega
   have k1:i<p.length:=by omega
   rw[getElem?_eq_getElem h1,getElem?_eq_getElem k1];exact congrArg some (b _ _ _ _ _ (h.2 i _ _ (getElem?_eq_getElem a) (getElem?_eq_getElem h1)) (k.2 i _ _ (getElem?_eq_getElem a) (getElem?_eq_getElem k1))).1
  .rw[getElem?_eq_none (by omega),getElem?_eq_none (by omega)]
 .exact absurd g (bad h l d)
 .exact absurd hw (bad k he a)
 .refine⟨rfl,?_⟩;rcases Nat.lt_trichotomy i j with h1 |rfl |h1
  .obtain⟨r,c⟩:=m i w h1 a;exact absurd (b _ _ _ _ _ hw c).2 he
  .obtain rfl:=Option.some.inj (a.symm.trans d);exact(b _ _ _ _ _ hw g).2
  .obtain⟨r,c⟩:=hp j v h1 d;exact absurd (b _ _ _ _ _ g c).2 l
def gp (b:cC)(i:Int)(w:List UInt8)(s:ByteArray)(err:Int):Prop:=fX b i 0 (bs w) s err
def fF (b:cC)(lang:ByteArray)(i:Int)(t:List UInt8)(s:List UInt8)(err:Int):Prop:=
 (¬dB b lang i t/\s=[]/\err=1)\/(dB b lang i t/\∃outs a,lU (gp b i) (cA t) outs a/\
  ((a≠0/\s=[]/\err=a)\/(a=0/\120<(dO (outs.map bl)).length/\s=[]/\err=2)\/(a=0/\(dO (outs.map bl)).length<=120/\s=dO (outs.map bl)/\err=0)))
theorem fF.uniq {b:cC}{lang:ByteArray}{i:Int}{t s c:List UInt8}{e':Int}(h:fF b lang i t s e)(k:fF b lang i t c e'):s=c/\e=e':=by
 rcases h with ⟨h1,rfl,rfl⟩ |⟨h1,o,l,g,h⟩<;>rcases k with ⟨k1,rfl,rfl⟩ |⟨k1,p,f1,j,k⟩
 .exact⟨rfl,rfl⟩
 .exact absurd k1 h1
 .exact absurd h1 k1
 obtain⟨rfl,rfl⟩:=g.uniq (Wr:=gp b i) (fun w s t e f h k=>fX.uniq h k) j;rcases h with ⟨a,rfl,rfl⟩ |⟨a,d,rfl,rfl⟩ |⟨a,d,rfl,rfl⟩<;>rcases k with ⟨k2,rfl,rfl⟩ |⟨k2,k3,rfl,rfl⟩ |⟨k2,k3,rfl,rfl⟩
 .exact⟨rfl,rfl⟩
 .exact absurd k2 a
 .exact absurd k2 a
 .exact absurd a k2
 .exact⟨rfl,rfl⟩
 .omega
 .exact absurd a k2
 .omega
 .exact⟨rfl,rfl⟩
end
section
open Go.RowKit Classical
theorem xt {t:List UInt8}(h:32∉t):partsOf t=[t]:=by
 have:=iT t [] [] h;rw[append_nil,nil_append]at this;unfold partsOf;rw[this,ee]
theorem xu {p r:List UInt8}(h:32∉p):partsOf (p++32::r)=p::partsOf r:=by
 unfold partsOf;rw[iT p _ [] h,nil_append,ee,if_pos rfl]
theorem pL (c:UInt8):∀{p:List UInt8} (r:List UInt8),c∉p->indexByte (p++c::r) c=p.length
 |[],r,_=>by simp[indexByte]
 |b::p,r,h=>by
  have a:b≠c:=fun e=>h (by rw[e];exact mem_cons_self ..);have d:=pL c (p:=p) r (fun q=>h (mem_cons_of_mem _ q));rw[cons_append];unfold indexByte;rw[d,if_neg (by simpa using a),if_neg (by simp),length_cons];rfl
theorem qR:∀(n:Nat) (s:List UInt8),s.length<=n->splitK [32] 0 (s.count 32) s=partsOf s
 |n,s,a=>by
  by_cases h:(32:UInt8)∈s
  .obtain⟨p,r,rfl,hp⟩:=eq_append_cons_of_mem h;rw[xu hp,count_append,count_eq_zero_of_not_mem hp,Nat.zero_add,count_cons_self];unfold splitK;rw[index_one,pL 32 r hp];rw[if_neg (by simp)];cases n with
   |zero=>simp at a
   |succ n=>
    have:=qR n r (by simp at a;omega);simp[this]
  .rw[xt h,count_eq_zero_of_not_mem h];rfl
def gm (s:ByteArray):List ByteArray:=splitB ⟨#[32]⟩ 0 (countB s ⟨#[32]⟩) s
theorem om (s:ByteArray):(gm s).map bl=partsOf (bl s):=by
 unfold gm;have h:=splitB_data ⟨#[32]⟩ 0 (countB s ⟨#[32]⟩) s;rw[show(fun t:ByteArray=>t.data.toList)=bl from rfl]at h;rw[h,show countB s ⟨#[32]⟩=(bl s).count 32 from count_one 32 _];exact qR _ (bl s) bW
theorem kN (s:ByteArray):(gm s).length=countB s ⟨#[32]⟩+1:=splitB_all _ bW 0 _ s rfl
theorem sL (s:ByteArray):(gm s).length<=s.size+1:=by
 rw[kN];have:=countB_le ⟨#[32]⟩ bW s.size s bW;omega
theorem pV (s:ByteArray):∀t∈gm s,t.size<=s.size:=by
 intro t d;have h1:bl t∈partsOf (bl s):=by rw[<-om];exact mem_map_of_mem d
 have b:=sw (bl s);have c:∀(l:List (List UInt8)) p,p∈l->p.length<=(dO l).length:=by
  intro l;induction l with
  |nil=>intro p hp;exact absurd hp (by simp)
  |cons q l e=>
   intro p hp;by_cases a:l=[]
   .subst a;obtain rfl:=mem_singleton.1 hp;exact bW
   .rw[sr _ a,length_append,length_cons];rcases mem_cons.1 hp with rfl |hp
    .omega
    .have:=e p hp;omega
 have:=c _ _ h1;rw[b,b9,b9]at this;exact this
set_option maxRecDepth 100000
set_option maxHeartbeats 2000000
theorem vI (s:ByteArray)(g:s.size<=1000000000)(w:World):
  Calls prog 43 #[.string s,.string ⟨#[32]⟩] w fun e w'=>∃a,e= .returned (.slice a (gm s).length (gm s).length)/\b8 w' w'.heap.size a (strs (gm s))/\Below w.heap.size w w':=by
 have c:=Any.strings_genSplit_core lays221 (by kernel_rfl) s ⟨#[32]⟩ 0 (-1) (gm s).length w (by omega) bW (zero_le _)
  (fun x c d=>(strings_Index_one x 32 _).mono fun e w' h=>⟨by rw[h.1];show _=Ending.returned (Value.int .i64 (index x.data.toList [32]));rw[index_one],h.2⟩)
  ((strings_Count_one s 32 w).mono fun e w' h=>⟨by rw[h.1];show _=Ending.returned (Value.int .i64 ((Lib.count s.data.toList [32]:Nat):Int));rw[count_one];rfl,h.2⟩)
  (by decide) (by decide) (by
   have:=sL s;rw[if_pos (by decide),kN];rw[kN]at this;omega)
 have b:splitB ⟨#[32]⟩ 0 ((gm s).length-1) s=gm s:=by rw[kN,Nat.add_sub_cancel];rfl
 rw[b]at c;rw[cellsOf_full]at c;have C:=bP c;clear c b;go_enter func43,ntmps43;go_wp2_with (refine C.out.mono ?_;rintro e j ⟨rfl,rfl⟩);go_ret;refine⟨_,rfl,fun f=>⟨w.heap.size,0,rfl,by simp,fun i x d=>?_⟩,bX.alloc bW _⟩;rw[Nat.zero_add,cell?_alloc_new];simpa [strs]using d
theorem yn (p:ByteArray->Prop)(ts:List ByteArray)(s:Option Addr)(C:Nat)(fn:FuncId)(lb:Array Value)(w:World)(A:ts.length<=maxLen)(h:b8 w w.heap.size s (strs ts))(E:∀args w,(callFunc fn args).run prog w= .ok (.enter fn args) w)
  (v:∀(w':World) t,Below w.heap.size w w'->t∈ts->Calls prog fn (#[.string t]++lb) w' fun e w''=>e= .returned (.bool (decide (p t)))/\Below w'.heap.size w' w''):
  Calls prog 68 #[.slice s ts.length C,.func (.func fn) #[] lb] w fun e w'=>∃r:Int,e= .returned (.int .i64 r)/\(0<=r↔∃t∈ts,p t)/\Below w.heap.size w w':=by
 unfold maxLen at A;have u:=bP (fun(wr:World) (a:Below w.heap.size w wr) (k:Nat) (hk:k<ts.length)=>(show∃g o,s=some ⟨g,o,none⟩/\wr.cell? ⟨g,o+k,none⟩=some (.string ts[k])from by
  obtain⟨g,o,e,z,y⟩:=h.strs (by omega);exact⟨g,o,e,(a.cell (p:=⟨g,o+k,none⟩) z).trans (y k hk)⟩))
 have x:=bP v;clear h v;go_enter func68,ntmps68;go_wp2_with fail;go_loopw [5,8] (fun _ i wr=>∃k:Nat,k<=ts.length/\i= .int .i64 k/\(∀j (b:j<ts.length),j<k->¬p ts[j])/\Below w.heap.size w wr) (fun _ i _=>ts.length-(intOf i).toNat);case atStart=>exact⟨0,zero_le _,rfl,(fun j _ b=>absurd b (not_lt_zero _)),bX⟩
 case round=>
  obtain⟨k,hk,rfl,n,a⟩:=hrel;have m:=bP n;clear n;by_cases f:k<ts.length
  .obtain⟨g,o,rfl,c0⟩:=u.out wr a k f;have l:=bP (x.out wr ts[k] a (getElem_mem f));by_cases hp:p ts[k]
   .rw[decide_eq_true hp]at l;have c:=bP (show(0:Int)<=k↔∃t∈ts,p t from⟨fun _=>⟨_,getElem_mem f,hp⟩,fun _=>by omega⟩);clear hp;go_wp2_with (refine l.out.mono ?_;rintro e D ⟨rfl,d⟩);go_ret;exact⟨_,rfl,c.out,a.trans (d.mono a.size)⟩
   .rw[decide_eq_false hp]at l;have q:=bP (show∀j (b:j<ts.length),j<k+1->¬p ts[j]from fun j b h1=>by
     by_cases e:j=k
     .subst e;exact hp
     .exact m.out j b (by omega))
    clear hp;go_wp2_with (refine l.out.mono ?_;rintro e D ⟨rfl,d⟩);exact⟨⟨k+1,by omega,by go_num,q.out,a.trans (d.mono a.size)⟩,by simp[intOf];omega⟩
  .obtain rfl:k=ts.length:=by omega
   have c:=bP (show(0:Int)<= -1↔∃t∈ts,p t from⟨fun h=>by omega,fun⟨t,B,hp⟩=>by
    obtain⟨j,b,rfl⟩:=mem_iff_getElem.1 B;exact absurd hp (m.out j b b)⟩)
   go_wp2_with fail;go_ret;exact⟨_,rfl,c.out,a⟩
theorem qC (p:ByteArray->Prop)(ts:List ByteArray)(a:Option Addr)(f:Nat)(fn:FuncId)(lb:Array Value)(w:World)(k:ts.length<=maxLen)(h:b8 w w.heap.size a (strs ts))(j:∀args w,(callFunc fn args).run prog w= .ok (.enter fn args) w)
  (b:∀(w':World) t,Below w.heap.size w w'->t∈ts->Calls prog fn (#[.string t]++lb) w' fun e w''=>e= .returned (.bool (decide (p t)))/\Below w'.heap.size w' w''):
  Calls prog 29 #[.slice a ts.length f,.func (.func fn) #[] lb] w fun e w'=>e= .returned (.bool (decide (∃t∈ts,p t)))/\Below w.heap.size w w':=by
 have g:=bP (yn p ts a f fn lb w k h j b);clear h b;go_enter func29,ntmps29;go_wp2_with (refine g.out.mono ?_;rintro e l ⟨r,rfl,d,c⟩;have i:=bP d;clear d);go_ret;exact⟨cX (decide_eq_decide.2 i.out),c⟩
def th (A:cr)(t:ByteArray):Prop:=(cB A.bls (bl t)).err≠0
theorem Cq (b:cC)(j:Nat)(B:cr)(k Bt:Nat)(a:Option Addr)(c:Nat)(s:ByteArray)(x:s.size<=maxLen)(w:World)(f:b.ae[j]?=some B)(p:cG B)(y:w.cell? ⟨k,0,none⟩=some (.slice a b.ae.length c))(C:w.cell? ⟨Bt,1,none⟩=some (.int .i64 (j:Int)))(l:eS w w.heap.size a b.ae):
  Calls prog 44 #[.string s,.pointer (some ⟨k,0,none⟩),.pointer (some ⟨Bt,0,none⟩)] w fun e w'=>e= .returned (.bool (decide (th B s)))/\Below w.heap.size w w':=by
 obtain⟨g,o,D,lc,H,I,rfl,A,E,F,G,d⟩:=l.get f;have z:j<b.ae.length:=(List.getElem?_eq_some_iff.1 f).1;have i:=lW B _ s x w d;have he:dG B s=cB B.bls (bl s):=by unfold dG;rw[if_pos p]
 rw[he]at i;have r:=bP i;have n:((cB B.bls (bl s)).err != 0)=decide (th B s):=by
  by_cases h:(cB B.bls (bl s)).err=0
  .rw[decide_eq_false (show¬th B s from fun q=>q h),h];rfl
  .rw[decide_eq_true (show th B s from h)];simpa using h
 have t:=bP n;clear i he p f l d n;go_enter func44,ntmps44;go_wp2_with (go_at_call 45;refine r.out.mono ?_;rintro e J ⟨v,rfl,u,m⟩);go_ret;exact⟨cX t.out,m⟩
theorem rQ (b:cC)(v:Value)(w:World)(h:dm w w.heap.size v b):
  Calls prog 42 #[v] w fun e w'=>e= .returned (.bool (decide (cU b)))/\Below w.heap.size w w':=by
 have m:=h;obtain⟨a,c,k,l,rfl,s,t,q,r⟩:=h;obtain⟨g,f⟩:∃g:World,g=w.alloc (.cells #[.slice a b.ae.length c,.slice k b.rules.length l] 25):=⟨_,rfl⟩;have d:Below w.heap.size w g:=by rw[f];exact bX.alloc bW _
 have i:Box g w.heap.size [.slice a b.ae.length c,.slice k b.rules.length l]:=by rw[f];exact Box.new _ _ _
 have p:=bP (ur b _ g ((m.below d bW).more d.size));obtain⟨x0,x1⟩:=i.c2;clear m q r i;go_enter func42,ntmps42;go_upto_region 1 with (fail);rw[<-f];clear f;go_wp2_with (refine p.out.mono ?_;rintro e x ⟨⟨n,rfl⟩ |⟨o,u,es,rfl, -, -, -⟩,j⟩)
 .go_ret;exact⟨cj n,d.trans (j.mono d.size)⟩
 .go_ret;exact⟨dP o,d.trans (j.mono d.size)⟩
def jY (lang:ByteArray)(i:Int)(text:ByteArray):Value:= .agg #[.string lang,.int .i64 i,.string text]
theorem lF (b:cC)(v:Value)(lang text:ByteArray)(i:Int)(j:lang.size<=maxLen)(M:text.size<=1000000000)(w:World)(h:dm w w.heap.size v b):
  Calls prog 11 #[v,jY lang i text] w fun e w'=>e= .returned (.bool (decide (dB b lang i (bl text))))/\Below w.heap.size w w':=by
 have Y:=h;obtain⟨a,c,I,J,rfl,L,hr,q,hR⟩:=h;unfold jY;obtain⟨o,m⟩:∃o:World,o=(w.alloc (.cells #[.slice a b.ae.length c,.slice I b.rules.length J] 25)).alloc (.cells #[.string lang,.int .i64 i,.string text] 27):=⟨_,rfl⟩;have H:Below w.heap.size w o:=by rw[m];exact(bX.alloc bW _).alloc (by simp) _
 have ar:o.heap.size=w.heap.size+2:=by rw[m];simp
 have D:Blk o w.heap.size #[.slice a b.ae.length c,.slice I b.rules.length J] 25:=by rw[m];exact(Blk.new _ _ _).alloc _
 have z:Blk o (w.heap.size+1) #[.string lang,.int .i64 i,.string text] 27:=by
  rw[m];have:=Blk.new (w.alloc (.cells #[.slice a b.ae.length c,.slice I b.rules.length J] 25)) #[.string lang,.int .i64 i,.string text] 27;simpa using this
 have HA:=bP q;have S:=bP Y;have n:=bP (fun(wr:World) (k:Below o.heap.size o wr)=>have y:=H.trans (k.mono (by omega));(show wr.cell? ⟨w.heap.size,0,none⟩=some (.slice a b.ae.length c)/\wr.cell? ⟨w.heap.size,1,none⟩=some (.slice I b.rules.length J)/\wr.cell? ⟨w.heap.size+1,0,none⟩=some (.string lang)/\wr.cell? ⟨w.heap.size+1,1,none⟩=some (.int .i64 i)/\wr.cell? ⟨w.heap.size+1,2,none⟩=some (.string text)/\Below w.heap.size w wr from
  ⟨(D.below k (by omega)).cell 0,(D.below k (by omega)).cell 1,(z.below k (by omega)).cell 0,(z.below k (by omega)).cell 1,(z.below k (by omega)).cell 2,y⟩))
 clear Y q hR D z;go_enter func11,ntmps11;go_upto_region 1 with (fail);rw[<-m];clear m;obtain⟨x0,x1,Q,x3,R, -⟩:=n.out o bX;by_cases h1:df (bl lang)=true;case neg=>
  have d1:df (bl lang)=false:=by simpa using h1
  have g:=bP (show¬dB b lang i (bl text)from fun h=>h1 h.lang);clear h1;go_wp2_with (refine(iu lang j _).mono ?_;rintro e s ⟨rfl,f⟩;rw[d1]);go_ret;exact⟨cj g.out,H.trans (f.mono H.size)⟩
 by_cases U:0<=i;case neg=>
  have g:=bP (show¬dB b lang i (bl text)from fun h=>U h.script.1);go_wp2_with (refine(iu lang j _).mono ?_;rintro e s ⟨rfl,f⟩;rw[h1];obtain⟨y0,y1,y2,y3,N,d⟩:=n.out s f);go_ret;exact⟨cj g.out,d⟩
 by_cases V:i<b.ae.length;case neg=>
  have g:=bP (show¬dB b lang i (bl text)from fun h=>V h.script.2);go_wp2_with (refine(iu lang j _).mono ?_;rintro e s ⟨rfl,f⟩;rw[h1];obtain⟨y0,y1,y2,y3,N,d⟩:=n.out s f);go_ret;exact⟨cj g.out,d⟩
 by_cases B:cU b;case neg=>
  have g:=bP (show¬dB b lang i (bl text)from fun h=>B h.be);have d4:decide (cU b)=false:=decide_eq_false B;clear B;have O:=bP d4;go_wp2_with (first |(go_at_call 41;refine(iu lang j _).mono ?_;rintro e s ⟨rfl,f⟩;rw[h1];obtain⟨y0,y1,y2,y3,N,d⟩:=n.out s f) |(go_at_call 42;refine(rQ b _ _ ((S.out.below d bW).more d.size)).mono ?_;rintro e w2 ⟨rfl,C⟩;rw[O.out]));go_ret;exact⟨cj g.out,d.trans (C.mono d.size)⟩
 have d4:decide (cU b)=true:=decide_eq_true B;have O:=bP d4;clear d4;obtain⟨A,q⟩:∃A,b.ae[i.toNat]?=some A:=⟨_,getElem?_eq_getElem (by omega)⟩;have hv:cG A:=B.scr.aI A (mem_of_getElem? q);go_upto_region 3 with (first |(go_at_call 41;refine(iu lang j _).mono ?_;rintro e s ⟨rfl,f⟩;rw[h1];obtain⟨y0,y1,y2,y3,N,d⟩:=n.out s f) |(go_at_call 42;refine(rQ b _ _ ((S.out.below d bW).more d.size)).mono ?_;rintro e w2 ⟨rfl,C⟩;rw[O.out]));have u:=f.trans (C.mono f.size);clear x0 x1 Q x3 R y0 y1 y2 y3 N;obtain⟨x0,x1,Q,x3,R,an⟩:=n.out w2 u;go_upto_region 4 with (refine(vI text M _).mono ?_;rintro e w3 ⟨pa,rfl,F,Z⟩);have l:=u.trans (Z.mono u.size);have r:=om text;have E:=pV text;have ad:=sL text;obtain⟨ps,x⟩:∃ps,gm text=ps:=⟨_,rfl⟩;rw[x]at F r E ad;rw[x];clear x;clear x0 x1 Q x3 R;have hlen:(partsOf (bl text)).length=ps.length:=by rw[<-r,length_map]
 by_cases h6:ps.length<=6;case neg=>
  have g:=bP (show¬dB b lang i (bl text)from fun h=>h6 (by have:=h.few;omega));go_wp2_with fail;go_ret;exact⟨cj g.out,(n.out w3 l).2.2.2.2.2⟩
 have HC:=bP (qC (th A) ps pa ps.length 44 #[.pointer (some ⟨w.heap.size,0,none⟩),.pointer (some ⟨w.heap.size+1,0,none⟩)] w3 (by unfold maxLen;omega) F (by intro args w;kernel_rfl) (fun wr t k G=>by
  have P:=l.trans (k.mono l.size);obtain⟨y0, -, -,y3, -,y⟩:=n.out wr P;have:=E t G;exact Cq b i.toNat A _ _ a c t (by unfold maxLen;omega) wr q hv y0 (by rw[y3];congr 2;omega) ((HA.out.below y bW).more y.size)))
 have hd:(!decide (∃t∈ps,th A t))=decide (dB b lang i (bl text)):=by
  rw[<-decide_not,decide_eq_decide];constructor
  .intro L;refine⟨B,h1,⟨U,V⟩,by omega,fun A' X p hp=>?_⟩;obtain rfl:=Option.some.inj (q.symm.trans X);rw[<-r]at hp;obtain⟨t,G,rfl⟩:=mem_map.1 hp;exact Classical.not_not.1 fun he=>L ⟨t,G,he⟩
  .rintro L ⟨t,G,he⟩;exact he (L.word A q (bl t) (by rw[<-r];exact mem_map_of_mem G))
 have T:=bP hd;clear hd q hv r E;go_wp2_with (refine HC.out.mono ?_;rintro e w4 ⟨rfl,aa⟩);go_ret;exact⟨cX T.out,(n.out w4 (l.trans (aa.mono l.size))).2.2.2.2.2⟩
end
end Go.Proofs.YtmhdgddjeadjjaaGreatDoor
