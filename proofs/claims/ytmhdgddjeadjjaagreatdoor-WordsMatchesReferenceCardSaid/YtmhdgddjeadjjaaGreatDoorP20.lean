/- A part of the proof: what the claim reaches. -/
import Derived.Test.YtmhdgddjeadjjaaGreatDoorP17
import Derived.Test.YtmhdgddjeadjjaaGreatDoorP18
namespace Go.Proofs.YtmhdgddjeadjjaaGreatDoor
open _root_.List Go.Lib _root_.Nat Go.World _root_.Int Go.Proofs.Tryz
variable {s:ByteArray}{t:List UInt8}{L:List cr}{i:Nat}{p:Plc}{A:cr}{M:cu}
section
open Go Classical
structure cC where
 ae:List cr
 rules:List dj
def cC.names (b:cC):List ByteArray:=b.ae.map cr.name
def cC.no (b:cC)(s:ByteArray)(i:Nat)(A:cr):Prop:=b.ae[i]?=some A/\A.name=s
structure qt (b:cC):Prop where
 one:1<=b.ae.length
 most:b.ae.length<=8
 aI:∀A∈b.ae,cG A
 names:b.names.Nodup
structure fO (b:cC)(l:List dj):Prop where
 rules:∀r∈l,∃i j A B,b.no r.src i A/\b.no r.dst j B/\i≠j/\dr r A B
 aV:(l.map (fun r=>(r.src,r.dst))).Nodup
structure cU (b:cC):Prop where
 scr:qt b
 rls:fO b b.rules
 base:∀i A B,1<=i->b.ae[i]?=some A->b.ae[0]?=some B->∃r∈b.rules,r.src=A.name/\r.dst=B.name
theorem cC.aR {b:cC}(h:b.no s i A):b.names[i]?=some s:=by
 unfold cC.names;rw[getElem?_map,h.1,Option.map_some,h.2]
theorem cC.aq {b:cC}(d:b.names.Nodup){j:Nat}{B:cr}(h:b.no s i A)(k:b.no s j B):i=j/\A=B:=by
 have h1:=cC.aR h;have k1:=cC.aR k;obtain⟨e,a⟩:=List.getElem?_eq_some_iff.1 h1;obtain⟨f,c⟩:=List.getElem?_eq_some_iff.1 k1;have:i=j:=(getElem_inj d).1 (a.trans c.symm);subst this;exact⟨rfl,Option.some.inj (h.1.symm.trans k.1)⟩
theorem cC.bK {b:cC}(h:s∈b.names):∃i A,b.no s i A:=by
 obtain⟨A,a,e⟩:=mem_map.1 h;obtain⟨i,c⟩:=getElem?_of_mem a;exact⟨i,A,c,e⟩
theorem cC.br {b:cC}(h:b.no s i A):s∈b.names:=mem_map.2 ⟨A,mem_of_getElem? h.1,h.2⟩
noncomputable def jz (A:cr)(t:List UInt8):List UInt8:=(rdL A.bls t).flatMap (fun k=>txt A.bls (A.small[k.toNat]?.getD 0))
noncomputable def nk (A:cr)(t:ByteArray)(s:ByteArray)(err:Int):Prop:=
 (cG A/\(cB A.bls (bl t)).err=0/\bl s=jz A (bl t)/\err=0)\/(¬(cG A/\(cB A.bls (bl t)).err=0)/\bl s=[]/\err=1)
theorem nk.uniq {t b:ByteArray}{e e':Int}(h:nk A t s e)(k:nk A t b e'):s=b/\e=e':=by
 rcases h with ⟨h1,a,c,rfl⟩ |⟨h1,a,rfl⟩<;>rcases k with ⟨k1,k2,k3,rfl⟩ |⟨k1,k2,rfl⟩
 .exact⟨cY (c.trans k3.symm),rfl⟩
 .exact absurd ⟨h1,a⟩ k1
 .exact absurd ⟨k1,k2⟩ h1
 .exact⟨cY (a.trans k2.symm),rfl⟩
noncomputable def jk (p:ByteArray->Prop)(ts:List ByteArray)(s:ByteArray)(err:Int):Prop:=
 (ts.filter (fun t=>decide (p t))=[]/\bl s=[]/\err=10)\/(ts.filter (fun t=>decide (p t))=[s]/\err=0)\/(2<=(ts.filter (fun t=>decide (p t))).length/\bl s=[]/\err=8)
theorem jk.uniq {p:ByteArray->Prop}{ts:List ByteArray}{b:ByteArray}{e e':Int}(h:jk p ts s e)(k:jk p ts b e'):s=b/\e=e':=by
 rcases h with ⟨h1,a,rfl⟩ |⟨h1,rfl⟩ |⟨h1,a,rfl⟩<;>rcases k with ⟨k1,k2,rfl⟩ |⟨k1,rfl⟩ |⟨k1,k2,rfl⟩
 .exact⟨cY (a.trans k2.symm),rfl⟩
 .rw[h1]at k1;cases k1
 .rw[h1]at k1;simp at k1
 .rw[h1]at k1;cases k1
 .rw[h1]at k1;exact⟨by simpa using k1,rfl⟩
 .rw[h1]at k1;simp at k1
 .rw[k1]at h1;simp at h1
 .rw[k1]at h1;simp at h1
 .exact⟨cY (a.trans k2.symm),rfl⟩
theorem ng {L:List (List UInt8)}(b:Told L){ls:List (List UInt8)}(h1:ls≠[])(a:∀m∈ls,m∈L)(d:ls.length<=24):(cB L ls.flatten).err=0/\rdL L ls.flatten=ids L ls:=by
 have c:=kJ (fun l c=>(b.len l c).1) ls a;have hp:=length_pos_iff.2 h1;have f:¬ls.flatten=[]:=fun e=>by rw[e,length_nil]at c;omega
 unfold rdL cB;rw[if_neg f,ox b ls 24 0 [] a d,nil_append];exact⟨(lL b ls 24 0 [] a).1 d,rfl⟩
theorem lM {L:List (List UInt8)}(c:Told L)(h:(cB L t).err=0):∃ls:List (List UInt8),ls≠[]/\(∀m∈ls,m∈L)/\t=ls.flatten/\rdL L t=ids L ls/\ls.length<=24:=by
 obtain⟨ls,h1,a,rfl,g⟩:=Dn c h;refine⟨ls,h1,a,rfl,g,?_⟩;rcases Nat.lt_or_ge 24 ls.length with b |b
 .have d:=kJ (fun l d=>(c.len l d).1) ls a;have hp:=length_pos_iff.2 h1;have f:¬ls.flatten=[]:=fun e=>by rw[e,length_nil]at d;omega
  unfold cB at h;rw[if_neg f,(lL c ls 24 0 [] a).2 b]at h;simp at h
 .exact b
noncomputable def fm (A:cr)(l:List UInt8):List UInt8:=txt A.bls (A.small[A.bls.idxOf l]?.getD 0)
theorem uF (h:cG A){l:List UInt8}(i:l∈A.bls):fm A l∈A.bls/\fm A (fm A l)=fm A l:=by
 have g:=fC h;have k:=idxOf_lt_length_of_mem i;have j:A.bls.length=A.letters.length:=by unfold cr.bls;rw[length_map]
 obtain⟨f1,f2,f3,f4,f5,f6,f7,f8⟩:=h.1;have d:A.bls.idxOf l<A.small.length:=by omega
 have a:A.small[A.bls.idxOf l]?=some A.small[A.bls.idxOf l]:=getElem?_eq_getElem d;have n:=f6 _ (getElem_mem d);have e:=f8 _ _ a;have hk:(A.small[A.bls.idxOf l]).toNat<A.bls.length:=by omega
 have b:fm A l=A.bls[(A.small[A.bls.idxOf l]).toNat]:=by
  unfold fm txt;rw[a,Option.getD_some,getElem?_eq_getElem hk,Option.getD_some]
 have hm:fm A l∈A.bls:=by rw[b];exact getElem_mem hk
 refine⟨hm,?_⟩;have f:A.bls.idxOf (fm A l)=(A.small[A.bls.idxOf l]).toNat:=by
  refine idxOf_getElem g.nodup ?_;rw[b,getElem?_eq_getElem hk]
 have c:∀m,fm A m=txt A.bls (A.small[A.bls.idxOf m]?.getD 0):=fun _=>rfl;rw[c (fm A l),f,e,Option.getD_some,c l,a,Option.getD_some]
theorem rB {ls:List (List UInt8)}(h:rdL A.bls t=ids A.bls ls):jz A t=(ls.map (fm A)).flatten:=by
 unfold jz;rw[h];unfold ids;rw[flatMap_map,flatMap_def];refine congrArg flatten (map_congr_left (fun l _=>?_));rw[toNat_natCast];rfl
theorem ud (h:cG A)(i:(cB A.bls t).err=0):(cB A.bls (jz A t)).err=0/\jz A (jz A t)=jz A t/\Cat A.bls (jz A t)/\(jz A t).length<=72:=by
 have a:=fC h;obtain⟨ls,h1,c,n,f,g⟩:=lM a i;have e:=rB f;have hm:∀m∈ls.map (fm A),m∈A.bls:=fun m hm=>by
  obtain⟨l,b,rfl⟩:=mem_map.1 hm;exact(uF h (c l b)).1
 obtain⟨q1,d⟩:=ng a (ls:=ls.map (fm A)) (by simpa using h1) hm (by simpa using g);have hlen:∀(ms:List (List UInt8)),(∀m∈ms,m∈A.bls)->ms.flatten.length<=3*ms.length:=fun ms=>by
  induction ms with
  |nil=>intro _;simp
  |cons m ms k=>
   intro q;have i1:=k (fun y j=>q y (mem_cons_of_mem _ j));have i2:=(a.len m (q m (mem_cons_self ..))).2;rw[flatten_cons,length_append,length_cons];omega
 rw[<-e]at q1 d;refine⟨q1,?_,?_,?_⟩
 .rw[rB d,e,map_map];congr 1;refine map_congr_left (fun l b=>?_);exact(uF h (c l b)).2
 .exact qB q1
 .rw[e];have:=hlen _ hm;rw[length_map]at this;omega
theorem oM (h:cG A)(a:(cB A.bls t).err=0):32∉t/\t≠[]:=by
 obtain⟨ls,h1,b,c,_⟩:=lM (fC h) a;constructor
 .intro hm;rw[c]at hm;obtain⟨l,f,d⟩:=mem_flatten.1 hm;have:=ve h l (b l f) 32 d;simp at this
 .intro e;rw[e]at a;simp[cB]at a
end
section
open Go.RowKit Classical
def eS (w:World)(B:Nat)(a:Option Addr)(L:List cr):Prop:=
 ∃rows:List (List Value),rows.length=L.length/\c8 w B 3 a rows/\∀(i:Nat) (r:List Value) (A:cr),rows[i]?=some r->L[i]?=some A->cH w B (.agg r.toArray) A
def gL (w:World)(B:Nat)(a:Option Addr)(L:List dj):Prop:=
 ∃rows:List (List Value),rows.length=L.length/\c8 w B 3 a rows/\∀(i:Nat) (r:List Value) (R:dj),rows[i]?=some r->L[i]?=some R->dY w B (.agg r.toArray) R
def dm (w:World)(B:Nat)(v:Value)(b:cC):Prop:=
 ∃a c d e,v= .agg #[.slice a b.ae.length c,.slice d b.rules.length e]/\b.ae.length<=maxLen/\b.rules.length<=maxLen/\eS w B a b.ae/\gL w B d b.rules
section
variable {w w' : World} {B B' : Nat} {a : Option Addr} {v : Value} {b : cC}
theorem eS.below (h:eS w B a L)(c:Below B' w w')(b:B<=B'):eS w' B a L:=by
 obtain⟨rows,h1,d,e⟩:=h;exact⟨rows,h1,d.below c b,fun i r A g f=>(e i r A g f).below c b⟩
theorem eS.more (h:eS w B a L)(b:B<=B'):eS w B' a L:=by
 obtain⟨rows,h1,c,d⟩:=h;exact⟨rows,h1,c.more b,fun i r A f e=>(d i r A f e).more b⟩
theorem gL.below {L:List dj}(h:gL w B a L)(c:Below B' w w')(b:B<=B'):gL w' B a L:=by
 obtain⟨rows,h1,d,e⟩:=h;exact⟨rows,h1,d.below c b,fun i r A g f=>(e i r A g f).below c b⟩
theorem gL.more {L:List dj}(h:gL w B a L)(b:B<=B'):gL w B' a L:=by
 obtain⟨rows,h1,c,d⟩:=h;exact⟨rows,h1,c.more b,fun i r A f e=>(d i r A f e).more b⟩
theorem dm.below (h:dm w B v b)(f:Below B' w w')(d:B<=B'):dm w' B v b:=by
 obtain⟨a,c,g,i,e,h1,j,k,l⟩:=h;exact⟨a,c,g,i,e,h1,j,k.below f d,l.below f d⟩
theorem dm.more (h:dm w B v b)(d:B<=B'):dm w B' v b:=by
 obtain⟨a,c,f,g,e,h1,i,j,k⟩:=h;exact⟨a,c,f,g,e,h1,i,j.more d,k.more d⟩
theorem eS.get (h:eS w B a L){k:Nat}(hk:L[k]?=some A):∃g o c lc d f,a=some ⟨g,o,none⟩/\g<B/\
  w.cell? ⟨g,o+k*3,none⟩=some (.string A.name)/\w.cell? ⟨g,o+k*3+1,none⟩=some (.slice c A.letters.length lc)/\w.cell? ⟨g,o+k*3+2,none⟩=some (.slice d A.small.length f)/\
  cH w B (.agg #[.string A.name,.slice c A.letters.length lc,.slice d A.small.length f]) A:=by
 obtain⟨rows,h1,p,q⟩:=h;obtain⟨t,_⟩:=List.getElem?_eq_some_iff.1 hk;have l:rows[k]?=some rows[k]:=getElem?_eq_getElem (by omega);have j:=q k _ A l hk;obtain⟨g,o,e,s,r⟩:=p (by omega);have i:=j;obtain⟨c,lc,d,f,m,_⟩:=j;have n:rows[k]=[.string A.name,.slice c A.letters.length lc,.slice d A.small.length f]:=by
  have:=Value.agg.inj m;simpa using congrArg Array.toList this
 have b:=r k _ l;rw[n]at b i;exact⟨g,o,c,lc,d,f,e,s,b 0 _ rfl,b 1 _ rfl,b 2 _ rfl,i⟩
theorem gL.get {L:List dj}(h:gL w B a L){k:Nat}{R:dj}(hk:L[k]?=some R):∃g o c lc,a=some ⟨g,o,none⟩/\g<B/\
  w.cell? ⟨g,o+k*3,none⟩=some (.string R.src)/\w.cell? ⟨g,o+k*3+1,none⟩=some (.string R.dst)/\w.cell? ⟨g,o+k*3+2,none⟩=some (.slice c R.list.length lc)/\
  dY w B (.agg #[.string R.src,.string R.dst,.slice c R.list.length lc]) R:=by
 obtain⟨rows,h1,m,n⟩:=h;obtain⟨r,_⟩:=List.getElem?_eq_some_iff.1 hk;have i:rows[k]?=some rows[k]:=getElem?_eq_getElem (by omega);have f:=n k _ R i hk;obtain⟨g,o,e,q,p⟩:=m (by omega);have d:=f;obtain⟨c,lc,j,_⟩:=f;have l:rows[k]=[.string R.src,.string R.dst,.slice c R.list.length lc]:=by
  have:=Value.agg.inj j;simpa using congrArg Array.toList this
 have b:=p k _ i;rw[l]at b d;exact⟨g,o,c,lc,e,q,b 0 _ rfl,b 1 _ rfl,b 2 _ rfl,d⟩
end
end
section
open Go Classical
def bs (l:List UInt8):ByteArray:=⟨l.toArray⟩
theorem cZ (l:List UInt8):bl (bs l)=l:=by simp[bl,bs]
theorem nA (l:List UInt8):(bs l).size=l.length:=by rw[<-b9,cZ]
theorem AT {l m:List UInt8}(h:bs l=bs m):l=m:=by rw[<-cZ l,<-cZ m,h]
theorem gD (l:List UInt8)(c:Int)(a:c≠0):dM (bs l) c=bs (l++[c.toNat.toUInt8]):=by
 rw[dM,if_neg a];apply cY;rw[cZ];simp[bl,bs]
theorem AX {S:Plc->Prop}{ks:List Plc}(b:∀p,S p->p∈ks)(h1:∀p∈ks,∀a∈c7 M.arcs p.st 0,dy p a∈ks)(h:Cl M S p):p∈ks:=by
 induction h with
 |base h=>exact b _ h
 |more _ d e=>
  obtain⟨a,c,rfl⟩:=ie.1 d;exact h1 _ e a c
theorem BO {l:List UInt8}{b:UInt8}(f:b≠0){ks c:List Plc}(h:∀p,Reach M l p->p∈ks)(i:∀p∈ks,∀a∈c7 M.arcs p.st (b.toNat:Int),dy p a∈c)(h1:∀p∈c,∀a∈c7 M.arcs p.st 0,dy p a∈c):∀p,Reach M (l++[b]) p->p∈c:=by
 intro p hp;rw[fN M l b f]at hp;refine AX (fun q d=>?_) h1 hp;unfold ez at d;rw[if_neg (fun e=>f (by
  have:b.toNat=0:=by omega
  exact UInt8.toNat_inj.1 this))]at d
 obtain⟨g,j,m⟩:=d;obtain⟨a,k,rfl⟩:=ie.1 m;exact i g (h g j) a k
theorem mx {l:List UInt8}{b:UInt8}(c:b≠0){a:Arc}(h:Reach M l p)(f:a∈M.arcs)(h1:a.frm=p.st)(d:a.inp=b.toNat):Reach M (l++[b]) (dy p a):=by
 rw[fN M l b c];refine .base ?_;unfold ez;rw[if_neg (fun e=>c (by
  have:b.toNat=0:=by omega
  exact UInt8.toNat_inj.1 this))]
 exact⟨p,h,ie.2 ⟨a,ec.2 ⟨f,h1,d⟩,rfl⟩⟩
theorem yv {l:List UInt8}{b:UInt8}(e:b≠0){a:Arc}(h:Reach M (l++[b]) p)(d:a∈M.arcs)(h1:a.frm=p.st)(c:a.inp=0):Reach M (l++[b]) (dy p a):=by
 rw[fN M l b e]at h⊢;exact .more h (ie.2 ⟨a,ec.2 ⟨d,h1,c⟩,rfl⟩)
end
section
open Go.RowKit Go.Shelf Classical
attribute [local go_sem] Oper.semAt_some
theorem mM:∀l:List UInt8,(32∉l/\indexByte l 32= -1)\/∃a r,l=a++32::r/\32∉a/\indexByte l 32=(a.length:Int)
 |[]=> .inl ⟨by simp,rfl⟩
 |c::l=>by
  by_cases b:c=32
  .subst b;exact .inr ⟨[],l,rfl,by simp,by simp[indexByte]⟩
  .have f:(c==32)=false:=by simpa using b
   rcases mM l with ⟨h1,d⟩ |⟨a,r,h1,d,g⟩
   .exact .inl ⟨by simp only[mem_cons,not_or];exact⟨fun e=>b e.symm,h1⟩,by simp[indexByte,f,d]⟩
   .refine .inr ⟨c::a,r,by rw[h1];rfl,by simp only[mem_cons,not_or];exact⟨fun e=>b e.symm,d⟩,?_⟩;have:¬((a.length:Int)= -1):=by omega
    simp[indexByte,f,g,this]
def blank:ByteArray:=⟨#[32]⟩
theorem D5 (s:ByteArray)(h:32∉bl s)(w:World):
  Calls prog 88 #[.string s,.string ⟨#[32]⟩] w fun e w'=>e= .returned (.tuple #[.string s,.string ⟨#[]⟩,.bool false])/\w'=w:=by
 have c:indexByte s.data.toList 32= -1:=by
  rcases mM (bl s)with ⟨_,e⟩ |⟨a,r,e,_⟩
  .exact e
  .exact absurd (by rw[e];simp) h
 have b:=stringslite_Index_one s 32 w;rw[c]at b;have d:=bP b;clear b c h;go_enter func88,ntmps88;go_wp2_with (go_at_call 146;refine d.out.mono ?_;rintro e w' ⟨rfl,hw⟩;subst hw);go_ret3;exact⟨rfl,rfl⟩
set_option maxHeartbeats 2000000
theorem C5 (s:ByteArray)(B:s.size<=maxLen){a r:List UInt8}(he:bl s=a++32::r)(p:32∉a)(w:World):
  Calls prog 88 #[.string s,.string ⟨#[32]⟩] w fun e w'=>e= .returned (.tuple #[.string (bs a),.string (bs r),.bool true])/\∃n,w'=w.drewN n:=by
 unfold maxLen at B;obtain⟨k,hk⟩:∃k,k=a.length:=⟨_,rfl⟩;have hlen:s.size=k+1+r.length:=by rw[<-b9,he,hk];simp;omega
 have t:indexByte s.data.toList 32=(k:Int):=by
  rcases mM (bl s)with ⟨e,_⟩ |⟨f,D,e,h1,A⟩
  .exact absurd (by rw[he];simp) e
  .have o:indexByte s.data.toList 32=(f.length:Int):=A;rw[o,hk];rw[he]at e;have:a=f:=by
    have b:∀(x y u v:List UInt8),x++32::u=y++32::v->32∉x->32∉y->x=y:=by
     intro x;induction x with
     |nil=>
      intro y u v e _ i;cases y with
      |nil=>rfl
      |cons c y=>simp at e;exact absurd (by rw[<-e.1];simp) i
     |cons c x C=>
      intro y u v e b i;cases y with
      |nil=>simp at e;exact absurd (by rw[e.1];simp) b
      |cons d y=>
       simp at e;obtain⟨rfl,e⟩:=e;rw[C y u v e (fun q=>b (mem_cons_of_mem _ q)) (fun q=>i (mem_cons_of_mem _ q))]
    exact b a f r D e p h1
   rw[this]
 have l:s.extract 0 k=bs a:=by
  apply cY;rw[cZ];unfold bl;rw[extract_data];show((bl s).drop 0).take (k-0)=a;rw[he,hk];simp
 have m:s.extract (k+1) s.size=bs r:=by
  apply cY;rw[cZ];unfold bl;rw[extract_data];show((bl s).drop (k+1)).take (s.size-(k+1))=r;rw[he,hlen,hk,drop_append,drop_of_length_le (le_succ _)];simp
 have g:=stringslite_Index_one s 32 w;rw[t]at g;have z:=bP g;have j:=bQ l m;clear g t he p l m hk;have E:(k:Int)<=(s.size:Int):=by omega
 have F:IntKind.i64.wrap ((k:Int)+1)=(k:Int)+1:=IntWalk.i64_in _ (by omega);have G:0<=(k:Int)+1:=by omega
 have H:((k:Int)+1).toNat=k+1:=by omega
 have I:(k:Int)+1<=(s.size:Int):=by omega
 clear hlen;go_enter func88,ntmps88;go_wp2_with (go_at_call 146;refine z.out.mono ?_;rintro e w' ⟨rfl,hw⟩;subst hw);go_quiet (fail);go_wp2;go_ret3;refine⟨?_,_,rfl⟩;show Ending.returned (.tuple #[.string (s.extract 0 k),.string (s.extract (k+1) s.size),.bool true])=_;rw[j.out.1,j.out.2]
theorem Er (s:ByteArray)(h:32∉bl s)(w:World):
  Calls prog 53 #[.string s,.string ⟨#[32]⟩] w fun e w'=>e= .returned (.tuple #[.string s,.string ⟨#[]⟩,.bool false])/\w'=w:=by
 have a:=bP (D5 s h w);clear h;go_enter func53,ntmps53;go_wp2_with (go_at_call 88;refine a.out.mono ?_;rintro e w' ⟨rfl,hw⟩;subst hw);go_ret3;exact⟨rfl,rfl⟩
theorem DL (s:ByteArray)(d:s.size<=maxLen){a r:List UInt8}(he:bl s=a++32::r)(b:32∉a)(w:World):
  Calls prog 53 #[.string s,.string ⟨#[32]⟩] w fun e w'=>e= .returned (.tuple #[.string (bs a),.string (bs r),.bool true])/\∃n,w'=w.drewN n:=by
 have c:=bP (C5 s d he b w);clear he b;go_enter func53,ntmps53;go_wp2_with (go_at_call 88;refine c.out.mono ?_;rintro e w' ⟨rfl,n,hw⟩;subst hw);go_ret3;exact⟨rfl,_,rfl⟩
def wX (Bt:Nat)(w:World):Nat:=match w.cell? ⟨Bt,0,none⟩with
 |some (.string s)=>s.size
 |_=>0
theorem mO {Bt:Nat}{w:World}{t:TypeId}(h:Blk w Bt #[.string s] t):wX Bt w=s.size:=by
 have c0:w.cell? ⟨Bt,0,none⟩=some (.string s):=h.cell 0;unfold wX;rw[c0]
theorem xW (l:List UInt8):32∉l\/∃a r,l=a++32::r/\32∉a:=by
 rcases mM l with ⟨h,_⟩ |⟨a,r,h1,b,_⟩
 .exact .inl h
 .exact .inr ⟨a,r,h1,b⟩
set_option maxRecDepth 100000
theorem BL (n:Nat)(hn:1<=n)(y Bt:Nat)(s:ByteArray)(hs:s.size<=maxLen)(J U:List ByteArray->World->Prop)(Kp:World->World->Prop)
  (Z:∀p W W',J p W->Below W.heap.size W W'->J p W')(P:∀p X v,J p X->J p (X.setCell ⟨Bt,0,none⟩ (.string v)))(G:∀W W',Kp W W'->W'.heap[Bt]?=W.heap[Bt]?)
  (Q:∀pre x W,J pre W->(pre++[x]).map bl<+:cA (bl s)->YieldAt Fence.wide (n-1) prog y #[.string x] W fun e W'=>
   (e= .returned (.bool true)/\J (pre++[x]) W'/\Kp W W')\/(e= .returned (.bool false)/\U (pre++[x]) W'))
  (W:World)(Y:Blk W Bt #[.string s] 9)(V:J [] W):
  CallsIn Fence.wide n prog 52 #[.func (.yield y) #[] #[],.pointer (some ⟨Bt,0,none⟩)] W fun e W'=>(∃v,e= .returned v)/\
   ((∃ys:List ByteArray,ys.map bl=cA (bl s)/\J ys W')\/(∃pre:List ByteArray,pre.map bl<+:cA (bl s)/\U pre W')):=by
 refine callsIn_of_wp func52 rfl trivial ?_ rfl;simp only[ntmps52,size_toArray,length_cons,length_nil,Nat.reduceAdd,Nat.reduceSub,Array.replicate_succ,Array.replicate_zero,push_toArray,append_toArray,nil_append,cons_append];obtain⟨k,z⟩:∃k,cA (bl s)=k:=⟨_,rfl⟩;rw[z]at Q⊢;have T:=bP z;have HB:=bP Y;have H0:=bP V;clear z Y V;gi_wp2;gi_loopw [3] (fun _ wr=>∃(cur:ByteArray) (pre:List ByteArray),k=pre.map bl++cA (bl cur)/\cur.size<=s.size/\Blk wr Bt #[.string cur] 9/\J pre wr) (fun _ wr=>wX Bt wr);case atStart=>exact⟨s,[],by rw[<-T.out];rfl,bW,HB.out,H0.out⟩
 case round=>
  obtain⟨cur,pre,I,hle,A,F⟩:=hrel;have u:=bP I;have q:=bP F;have N:=bP (mO A);have L:=bP A;have c0:wr.cell? ⟨Bt,0,none⟩=some (.string cur):=A.cell 0;have f0:=A.frozen 0;clear I F A;by_cases he:bl cur=[]
  .have e1:=iw he;have e2:=(gx cur).2 he;have M:=bP he;clear he;gi_wp2;go_end0;exact⟨⟨_,rfl⟩,.inl ⟨pre,by rw[u.out,M.out,qW,append_nil],q.out⟩⟩
  .have e2:=ic he;have M:=bP he;have S:0<cur.size:=by
    rcases eq_zero_or_pos cur.size with h |h
    .exact absurd (eq_nil_of_length_eq_zero (by rw[b9];exact h)) he
    .exact h
   clear he;rcases xW (bl cur)with C |⟨a,r,t,R⟩
   .have i:k=pre.map bl++[bl cur]:=by rw[u.out,xO C,if_neg M.out]
    have b:=bP i;have E:=bP (Er cur C wr);clear i C;gi_wp2_with (refine⟨trivial,?_⟩;gi_at_call 53;refine(callsIn_wide.2 E.out).mono ?_;rintro e D ⟨rfl,hw⟩;subst D;obtain⟨fn,tmps,assign,body,hy,O⟩:=Q pre cur wr q.out (by rw[b.out];exact⟨[],by simp⟩));refine O.mono ?_;rintro e l (⟨rfl,w,B⟩ |⟨rfl,m⟩)
    .have g:Blk l Bt #[.string cur] 9:=(G _ _ B).trans L.out;have c3:l.cell? ⟨Bt,0,none⟩=some (.string cur):=g.cell 0;have f3:=g.frozen 0;gi_wp2;have c:Blk (l.setCell ⟨Bt,0,none⟩ (.string ⟨#[]⟩)) Bt #[.string ⟨#[]⟩] 9:=g.aj 0 _;exact⟨⟨⟨#[]⟩,pre++[cur],by rw[b.out];simp[bl,qW],zero_le _,c,P _ _ _ w⟩,by rw[mO c,N.out];exact S⟩
    .gi_wp2;refine bodyPost_ret (results_none rfl _ _ _) rfl ?_;exact⟨⟨_,rfl⟩,.inr ⟨_,by rw[b.out];exact⟨[],by simp⟩,m⟩⟩
   .have i:k=pre.map bl++((if a=[] then [] else [a])++cA r):=by rw[u.out,t,yD R]
    have b:=bP i;have E:=bP (DL cur (by omega) t R wr);have H:(bs r).size<cur.size:=by
     rw[nA,<-b9 cur,t];simp;omega
    clear i t R;by_cases f:a=[]
    .have ab:(bs a).toList=[]:=iw (by rw[cZ];exact f);have ai:=(gx (bs a)).2 (by rw[cZ];exact f);have j:k=pre.map bl++cA (bl (bs r)):=by rw[b.out,if_pos f,cZ];rfl
     have d:=bP j;clear j f;gi_wp2_with (refine⟨trivial,?_⟩;gi_at_call 53;refine(callsIn_wide.2 E.out).mono ?_;rintro e D ⟨rfl,o,hw⟩;subst D);refine⟨fun _ h=>(by cases h),?_⟩;gi_wp2;have aa:=Z _ _ _ q.out (Go.below_drewN (Below.refl _ wr) o);have c:Blk ((wr.drewN o).setCell ⟨Bt,0,none⟩ (.string (bs r))) Bt #[.string (bs r)] 9:=(L.out.drewN o).aj 0 _;exact⟨⟨bs r,pre,d.out,by omega,c,P _ _ _ aa⟩,by rw[mO c,N.out];exact H⟩
    .have ab:=ic (s:=bs a) (by rw[cZ];exact f);have j:k=(pre++[bs a]).map bl++cA (bl (bs r)):=by rw[b.out,if_neg f,map_append,cZ,append_assoc];simp[cZ]
     have d:=bP j;clear j f;gi_wp2_with (refine⟨trivial,?_⟩;gi_at_call 53;refine(callsIn_wide.2 E.out).mono ?_;rintro e D ⟨rfl,o,hw⟩;subst D;obtain⟨fn,tmps,assign,body,hy,O⟩:=Q pre (bs a) (wr.drewN o) (Z _ _ _ q.out (Go.below_drewN (Below.refl _ wr) o)) (by rw[d.out];exact⟨_,rfl⟩));refine O.mono ?_;rintro e l (⟨rfl,w,B⟩ |⟨rfl,m⟩)
     .have g:Blk l Bt #[.string cur] 9:=(G _ _ B).trans (L.out.drewN o);have c3:l.cell? ⟨Bt,0,none⟩=some (.string cur):=g.cell 0;have f3:=g.frozen 0;gi_wp2;have c:Blk (l.setCell ⟨Bt,0,none⟩ (.string (bs r))) Bt #[.string (bs r)] 9:=g.aj 0 _;exact⟨⟨bs r,pre++[bs a],d.out,by omega,c,P _ _ _ w⟩,by rw[mO c,N.out];exact H⟩
     .gi_wp2;refine bodyPost_ret (results_none rfl _ _ _) rfl ?_;exact⟨⟨_,rfl⟩,.inr ⟨_,by rw[d.out];exact⟨_,rfl⟩,m⟩⟩
def zl (Bt:Nat)(X Y:World):Prop:=∃v:ByteArray,Y=X.setCell ⟨Bt,0,none⟩ (.string v)
def vm (Bt:Nat)(X Y:World):Prop:=Y.heap[Bt]?=X.heap[Bt]?
theorem uw (n:Nat)(k:1<=n)(Bt:Nat)(s:ByteArray)(l:s.size<=maxLen)(W:World)(a:Blk W Bt #[.string s] 9):
  vF Fence.wide n prog 52 #[.pointer (some ⟨Bt,0,none⟩)] (fun x:ByteArray=> #[.string x]) (vm Bt) (zl Bt) (fun m=>m.map bl=cA (bl s)) (fun pre=>pre.map bl<+:cA (bl s)) (fun pre x=>(pre++[x]).map bl<+:cA (bl s)) W:=by
 intro y J b c g e o f q i d;exact BL n k y Bt s l J b (vm Bt) (fun p X Y h j=>e p X Y none h (gO j none) (by simp)) (fun p X v h=>f p X _ h ⟨v,rfl⟩) (fun _ _ h=>h) i c (a.below g a.lt) d
theorem uv (s:ByteArray)(w:World):
  Calls prog 22 #[.string s] w fun e w'=>e= .returned (.func (.func 52) #[] #[.pointer (some ⟨w.heap.size,0,none⟩)])/\w'=w.alloc (.cells #[.string s] 9):=by
 go_enter func22,ntmps22;go_wp2;go_ret;exact⟨rfl,rfl⟩
end
end Go.Proofs.YtmhdgddjeadjjaaGreatDoor
