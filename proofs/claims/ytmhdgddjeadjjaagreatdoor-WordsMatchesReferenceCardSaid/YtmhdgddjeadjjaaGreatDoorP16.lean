/- A part of the proof: what the claim reaches. -/
import Derived.Test.YtmhdgddjeadjjaaGreatDoorP11
import Derived.Test.YtmhdgddjeadjjaaGreatDoorP15
import Derived.Test.YtmhdgddjeadjjaaGreatDoorSort
namespace Go.Proofs.YtmhdgddjeadjjaaGreatDoor
open _root_.List Go.Lib _root_.Nat Go.World _root_.Int Go.Proofs.Tryz
variable {es:List ((ByteArray × ByteArray) × Int)}{LS:List (List UInt8)}{ks:List Plc}{cs:List Value}{b bm j k:Nat}{w w':World}
section
open Go Classical
def Mk (xs:List Bool)(u:Nat):Prop:=xs[u]?=some true
theorem BF {xs:List Bool}{t u:Nat}(a:t<xs.length):Mk (xs.set t true) u↔u=t\/Mk xs u:=by
 unfold Mk;rw[getElem?_set];by_cases h:t=u
 .subst h;simp[a]
 .rw[if_neg h];constructor
  .exact .inr
  .rintro(e |h1)
   .exact absurd e.symm h
   .exact h1
theorem zE {xs:List Bool}{t:Nat}(h:xs[t]?=some false):(xs.set t true).count false<xs.count false:=by
 induction xs generalizing t with
 |nil=>simp at h
 |cons x xs a=>
  cases t with
  |zero=>simp at h;subst h;simp
  |succ t=>
   have:=a (t:=t) (by simpa using h);simp only[set_cons_succ,count_cons];omega
def Ar (M:cu)(s t:Int):Prop:=∃a∈M.arcs,a.frm=s/\a.to=t
def Fwd (M:cu)(u:Int):Prop:=q8 (Ar M) M.start u
def Bwd (M:cu)(u:Int):Prop:=∃s∈M.final,q8 (Ar M) u s
def Kept (M:cu)(u:Int):Prop:=u=M.start\/(Fwd M u/\Bwd M u)
noncomputable def Fp (M:cu)(s:Nat):Nat:=((range s).filter (fun u:Nat=>decide (Kept M (u:Int)))).length
noncomputable def xp (M:cu)(s:Int):Int:=(Fp M s.toNat:Nat)
noncomputable def Arc.num (M:cu)(a:Arc):Arc:=⟨xp M a.frm,a.inp,a.out,xp M a.to⟩
noncomputable def Fg (M:cu):cu:=
 ⟨xp M M.ag,xp M M.start,(M.final.filter (fun s=>decide (Kept M s))).map (xp M),(M.arcs.filter (fun a=>decide (Kept M a.frm/\Kept M a.to))).map (Arc.num M)⟩
structure DE where
 inp:Int
 out:Int
 dst:Int×Int
noncomputable def EM (m n:List Arc)(x:Int×Int):List DE:=
 ((m.filter (fun a=>decide (a.frm=x.1))).flatMap (fun a=>if a.out=0 then [⟨a.inp,0,(a.to,x.2)⟩] else
  (n.filter (fun b=>decide (b.frm=x.2/\b.inp=a.out))).map (fun b=>⟨a.inp,b.out,(a.to,b.to)⟩)))++
 (n.filter (fun b=>decide (b.frm=x.2/\b.inp=0))).map (fun b=>⟨0,b.out,(x.1,b.to)⟩)
structure PSt where
 ord:List (Int×Int)
 arcs:List Arc
noncomputable def Es (l:List (Int×Int))(x:Int×Int):List (Int×Int):=if x∈l then l else l++[x]
noncomputable def Ff (i:Nat)(st:PSt)(s:DE):PSt:=⟨Es st.ord s.dst,st.arcs++[⟨i,s.inp,s.out,((Es st.ord s.dst).idxOf s.dst:Nat)⟩]⟩
noncomputable def Fv (m n:List Arc)(i:Nat)(st:PSt):PSt:=match st.ord[i]? with
 |some x=>(EM m n x).foldl (Ff i) st
 |none=>st
noncomputable def EK (m n:List Arc):Nat->Nat->PSt->PSt
 |0,_,st=>st
 |f+1,i,st=>if i<st.ord.length then EK m n f (i+1) (Fv m n i st) else st
noncomputable def mi (M N:cu):PSt:=EK M.arcs N.arcs 4000 0 ⟨[(M.start,N.start)],[]⟩
section
variable {M N C : cu} {ord : List (Int × Int)} {arcs : List Arc}
end
section
variable {M N U : cu}
end
section
variable {K M N C : cu}
end
def gh (l:List UInt8)(base k:Nat):Int:=if k+1=l.length then 1 else (base:Int)+(k:Int)
def tz (l:List UInt8)(base:Nat):List Arc:=
 [⟨0,dv l 0,dv l 0,gh l base 0⟩,⟨1,dv l 0,dv l 0,gh l base 0⟩]++(range (l.length-1)).map fun j:Nat=>(⟨(base:Int)+(j:Int),dv l (j+1),dv l (j+1),gh l base (j+1)⟩:Arc)
def mj:Nat->List (List UInt8)->List Arc
 |_,[]=>[]
 |base,l::r=>tz l base++mj (base+l.length-1) r
def de:Nat->List (List UInt8)->Nat
 |base,[]=>base
 |base,l::r=>de (base+l.length-1) r
inductive Cat (LS:List (List UInt8)):List UInt8->Prop
 |one {l:List UInt8}:l∈LS->Cat LS l
 |more {x l:List UInt8}:Cat LS x->l∈LS->Cat LS (x++l)
structure mD (LS:List (List UInt8))(C:cu):Prop where
 ag:C.ag=(de 2 LS:Nat)
 start:C.start=0
 final:C.final=[1]
 az:cR C.arcs
 mem:∀a,a∈C.arcs↔a∈mj 2 LS
theorem yG {L:List (List UInt8)}{x:List UInt8}:Cat L x↔∃ls:List (List UInt8),ls≠[]/\(∀l∈ls,l∈L)/\x=ls.flatten:=by
 constructor
 .intro h;induction h with
  |one a=>exact⟨[_],by simp,fun m hm=>by obtain rfl:=mem_singleton.1 hm;exact a,by simp⟩
  |more _ a f=>
   obtain⟨ls,h1,d,rfl⟩:=f;refine⟨ls++[_],by simp,fun m hm=>?_,by rw[flatten_append];simp;rfl⟩;rcases mem_append.1 hm with hm |hm
   .exact d m hm
   .obtain rfl:=mem_singleton.1 hm;exact a
 .rintro⟨ls,h1,d,rfl⟩;have key:∀(n:Nat) (ls:List (List UInt8)),ls.length=n+1->(∀l∈ls,l∈L)->Cat L ls.flatten:=fun n=>by
   induction n with
   |zero=>
    intro ls a b;obtain⟨l,rfl⟩:=length_eq_one_iff.1 a;simpa using Cat.one (b l (by simp))
   |succ n f=>
    intro ls a b;have c:ls≠[]:=by intro e;subst e;simp at a
    rw[<-dropLast_concat_getLast c,flatten_append];have:=f ls.dropLast (by rw[length_dropLast];omega) (fun l a=>b l (dropLast_subset _ a));simpa using this.more (b _ (getLast_mem c))
  obtain⟨m,hm⟩:∃m,ls.length=m+1:=⟨ls.length-1,by have:=length_pos_iff.2 h1;omega⟩;exact key m ls hm d
structure Told (L:List (List UInt8)):Prop where
 nodup:L.Nodup
 len:∀l∈L,1<=l.length/\l.length<=3
 apart:∀l∈L,∀m∈L,l≠m->m<+:l->¬eT L (l.drop m.length)
theorem qH {L:List (List UInt8)}:∀(ls:List (List UInt8)) (r:List UInt8),(∀l∈ls,l∈L)->r≠[]->r<+:ls.flatten->eT L r
 |[],r,_,c,hp=>absurd (prefix_nil.1 (by simpa using hp)) c
 |l::ls,r,h,c,hp=>by
  rw[flatten_cons]at hp;rcases prefix_or_prefix_of_prefix hp (prefix_append l ls.flatten)with h1 |h1
  .exact(fp L r).2 ⟨l,h l (mem_cons_self ..),.inl h1⟩
  .obtain⟨a,rfl⟩:=h1;by_cases e:a=[]
   .subst e;exact(fp L _).2 ⟨l,h l (mem_cons_self ..),.inl (by simp)⟩
   .have b:a<+:ls.flatten:=(prefix_append_right_inj l).1 hp;exact(fp L _).2 ⟨l,h l (mem_cons_self ..),.inr ⟨a,rfl,qH ls a (fun m hm=>h m (mem_cons_of_mem _ hm)) e b⟩⟩
theorem AR {L:List (List UInt8)}(a:Told L){l:List UInt8}(b:l∈L){ls:List (List UInt8)}(f:∀m∈ls,m∈L):∃k,atF L (l++ls.flatten)=some k/\L[k]?=some l:=by
 obtain⟨k,hk⟩:=mem_iff_getElem?.1 b;refine⟨k,?_,hk⟩;refine vN L a.nodup _ k l hk (prefix_append _ _) (fun m hm hp=>?_) (a.len l b).1 3 (a.len l b).2;rcases Nat.lt_or_ge l.length m.length with h |h
 .exfalso;have h1:l<+:m:=prefix_of_prefix_length_le (prefix_append l ls.flatten) hp (by omega);obtain⟨r,rfl⟩:=h1;have c:r≠[]:=by intro e;subst e;simp at h
  have d:r<+:ls.flatten:=(prefix_append_right_inj l).1 hp;have:=a.apart _ hm l b (fun e=>c (by simpa using e)) (prefix_append _ _);rw[drop_left]at this;exact this (qH ls r f c d)
 .exact h
theorem lL {L:List (List UInt8)}(d:Told L):∀(ls:List (List UInt8)) (f o:Nat) (acc:List Int),(∀m∈ls,m∈L)->(ls.length<=f->(dc L f ls.flatten o acc).err=0)/\(f<ls.length->(dc L f ls.flatten o acc).err=2)
 |[],f,o,acc,_=>by
  constructor
  .intro _;cases f<;>simp[dc]
  .intro h;simp at h
 |l::ls,f,o,acc,g=>by
  have j:=g l (mem_cons_self ..);have a:∀m∈ls,m∈L:=fun m hm=>g m (mem_cons_of_mem _ hm);obtain⟨k,b,i⟩:=AR d j a;have c:¬(l++ls.flatten=[]):=fun e=>by
   have:=(d.len l j).1;rw[(append_eq_nil_iff.1 e).1]at this;simp at this
  rw[flatten_cons];cases f with
  |zero=>
   constructor
   .intro h;simp at h
   .intro _;unfold dc;rw[if_neg c,b]
  |succ f=>
   obtain⟨i1,i2⟩:=lL d ls f (o+l.length) (acc++[(k:Int)]) a;have e:dc L (f+1) (l++ls.flatten) o acc=dc L f ls.flatten (o+l.length) (acc++[(k:Int)]):=by
    conv=>lhs;unfold dc
    rw[if_neg c,b];simp only[i,Option.getD_some,drop_left]
   rw[e,length_cons];exact⟨fun h=>i1 (by omega),fun h=>i2 (by omega)⟩
theorem uy {L:List (List UInt8)}:∀(f:Nat) (t:List UInt8) (o:Nat) (acc:List Int),(dc L f t o acc).err=0->∃ls:List (List UInt8),(∀m∈ls,m∈L)/\t=ls.flatten
 |0,t,o,acc,h=>by
  unfold dc at h;split at h
  .rename_i e;exact⟨[],by simp,by simpa using e⟩
  .split at h<;>simp at h
 |f+1,t,o,acc,h=>by
  unfold dc at h;split at h
  .rename_i e;exact⟨[],by simp,by simpa using e⟩
  .split at h
   .simp at h
   .rename_i k hk;obtain⟨l,h1,b,_⟩:=lZ hk;obtain⟨ls,q1,a⟩:=uy f _ _ _ h;rw[h1]at a;simp only[Option.getD_some]at a;refine⟨l::ls,fun m hm=>?_,by rw[flatten_cons,<-a];exact qL b⟩;rcases mem_cons.1 hm with rfl |hm
    .exact mem_of_getElem? h1
    .exact q1 m hm
theorem kJ {L:List (List UInt8)}(h:∀l∈L,1<=l.length):∀ls:List (List UInt8),(∀m∈ls,m∈L)->ls.length<=ls.flatten.length
 |[],_=>by simp
 |l::ls,a=>by
  have h1:=h l (a l (mem_cons_self ..));have b:=kJ h ls (fun m hm=>a m (mem_cons_of_mem _ hm));rw[flatten_cons,length_append,length_cons];omega
theorem qB {L:List (List UInt8)}{x:List UInt8}(h:(cB L x).err=0):Cat L x:=by
 unfold cB at h;split at h
 .simp at h
 .rename_i b;obtain⟨ls,h1,a⟩:=uy 24 x 0 [] h;exact yG.2 ⟨ls,fun e=>b (by rw[a,e];rfl),h1,a⟩
theorem fC {A:cr}(h:cG A):Told A.bls:=by
 refine⟨h.1.nodup,h.1.len,fun l j m hm d hp=>?_⟩;obtain⟨a,f,rfl⟩:=mem_map.1 j;obtain⟨b,g,rfl⟩:=mem_map.1 hm;obtain⟨i,c⟩:=mem_iff_getElem?.1 f;obtain⟨k,hk⟩:=mem_iff_getElem?.1 g;rw[b9];exact h.2 i k a b (fun e=>d (by rw[e,hk]at c;cases c;rfl)) c hk hp
theorem ve {A:cr}(h:cG A):∀l∈A.bls,∀c∈l,33<=c.toNat/\c.toNat<=126:=fun l e c d=>by
 obtain⟨a,b,rfl⟩:=mem_map.1 e;have h1:=all_eq_true.1 (h.1.2.2.2.2.1 a b).2.2 c d;simp[eV]at h1;omega
theorem im:∀(r:List (List UInt8)) (base:Nat),(∀l∈r,l.length<=3)->de base r<=base+2*r.length
 |[],_,_=>bW
 |l::r,base,h=>by
  have h1:=h l (mem_cons_self ..);have:=im r (base+l.length-1) (fun m hm=>h m (mem_cons_of_mem _ hm));simp only[de,length_cons];omega
def tx (l:List UInt8):ByteArray:=⟨l.toArray⟩
def ff:cu:=⟨0,0,[],[]⟩
def gI (l S:List Arc):Prop:=cR S/\∀a,a∈S↔a∈l
theorem gI.uniq {l S b:List Arc}(h:gI l S)(c:gI l b):S=b:=cR.ext h.1 c.1 (fun a=>by rw[h.2,c.2])
theorem gI.len {l S:List Arc}(h:gI l S):S.length<=l.length:=gz h.1.nodup (fun a b=>(h.2 a).1 b)
def Fj (M N:cu)(ord:List (Int×Int))(j:Nat):Prop:=∃z,ord[j]?=some z/\z.1∈M.final/\z.2∈N.final
noncomputable def Fo (M N:cu)(ord:List (Int×Int))(i:Nat):List Int:=((range i).filter (fun j=>decide (Fj M N ord j))).map (fun j:Nat=>(j:Int))
noncomputable def Fs (M N:cu)(S:List Arc):cu:=⟨((mi M N).ord.length:Nat),0,Fo M N (mi M N).ord (mi M N).ord.length,S⟩
def Big (M N:cu)(S:List Arc):Prop:=4000<(mi M N).ord.length\/20000<S.length
def qm (M N C:cu)(err:Int):Prop:=
 (¬(cN M/\cN N)/\err=1/\C=ff)\/(cN M/\cN N/\∃S,gI (mi M N).arcs S/\((Big M N S/\err=2/\C=ff)\/(¬Big M N S/\err=0/\C=Fg (Fs M N S))))
section
variable {M N C C' : cu} {e e' : Int}
theorem qm.uniq (h:qm M N C e)(c:qm M N C' e'):C=C'/\e=e':=by
 rcases h with ⟨n,rfl,rfl⟩ |⟨i,j,S,k,h⟩<;>rcases c with ⟨l,rfl,rfl⟩ |⟨d,f,m,g,c⟩
 .exact⟨rfl,rfl⟩
 .exact absurd ⟨d,f⟩ n
 .exact absurd ⟨i,j⟩ l
 .obtain rfl:=k.uniq g;rcases h with ⟨b,rfl,rfl⟩ |⟨b,rfl,rfl⟩<;>rcases c with ⟨a,rfl,rfl⟩ |⟨a,rfl,rfl⟩
  .exact⟨rfl,rfl⟩
  .exact absurd b a
  .exact absurd a b
  .exact⟨rfl,rfl⟩
end
def DK (A:cr)(C:cu)(err:Int):Prop:=(¬cG A/\err=1/\C=ff)\/(cG A/\err=0/\mD A.bls C)
theorem mD.uniq {L:List (List UInt8)}{C C':cu}(h:mD L C)(e:mD L C'):C=C':=by
 have f:C.ag=C'.ag:=h.ag.trans e.ag.symm;have g:C.start=C'.start:=h.start.trans e.start.symm;have i:C.final=C'.final:=h.final.trans e.final.symm;have j:C.arcs=C'.arcs:=cR.ext h.az e.az (fun a=>by rw[h.mem,e.mem]);obtain⟨a,b,c,d⟩:=C;obtain⟨k,l,m,n⟩:=C';simp only at f g i j;subst f g i j;rfl
section
variable {A : cr} {M C D : cu}
end
section
variable {M N : cu} {st st' : PSt} {i : Nat}
end
def eR (b j:Nat):Int:=if j=0 then 0 else (b:Int)+((j-1:Nat):Int)
def fY (l:List UInt8)(b j:Nat):List Arc:=(⟨eR b j,dv l j,dv l j,gh l b j⟩:Arc)::(if j=0 then [⟨1,dv l 0,dv l 0,gh l b 0⟩] else [])
def fr (l:List UInt8)(b j:Nat):List Arc:=(range j).flatMap (fY l b)
theorem px (l:List UInt8)(b j:Nat):fr l b (j+1)=fr l b j++fY l b j:=by
 unfold fr;rw[range_succ,flatMap_append];simp
theorem ry (l:List UInt8)(b j:Nat):(fr l b j).length<=2*j:=by
 induction j with
 |zero=>simp[fr]
 |succ j a=>
  rw[px,length_append];have:(fY l b j).length<=2:=by unfold fY;split<;>simp
  omega
theorem Dc {l:List UInt8}(h:1<=l.length)(a:Arc):a∈fr l b l.length↔a∈tz l b:=by
 unfold fr tz;simp only[mem_flatMap,mem_range,fY,mem_append,mem_cons,not_mem_nil,or_false,mem_map];constructor
 .rintro⟨j,d,rfl |c⟩
  .rcases eq_zero_or_pos j with rfl |e
   .left;left;simp[eR]
   .right;refine⟨j-1,by omega,?_⟩;unfold eR;rw[if_neg (by omega),show j-1+1=j by omega]
  .split at c
   .left;right;simpa using c
   .simp at c
 .rintro((rfl |rfl) |⟨j,d,rfl⟩)
  .exact⟨0,by omega,.inl (by simp[eR])⟩
  .exact⟨0,by omega,.inr (by simp)⟩
  .refine⟨j+1,by omega,.inl ?_⟩;unfold eR;rw[if_neg (by omega),show j+1-1=j by omega]
def gN:Nat->List (List UInt8)->List Arc
 |_,[]=>[]
 |b,l::r=>fr l b l.length++gN (b+l.length-1) r
theorem sG (a:Arc):∀(LS:List (List UInt8)) (b:Nat),(∀l∈LS,1<=l.length)->(a∈gN b LS↔a∈mj b LS)
 |[],_,_=>by simp[gN,mj]
 |l::r,b,h=>by
  simp only[gN,mj,mem_append];rw[Dc (h l (mem_cons_self ..)),sG a r _ (fun z c=>h z (mem_cons_of_mem _ c))]
theorem qE (l:List UInt8):∀(LS:List (List UInt8)) (b:Nat),gN b (LS++[l])=gN b LS++fr l (de b LS) l.length
 |[],b=>by simp[gN,de]
 |x::r,b=>by
  simp only[cons_append,gN,de];rw[qE l r,append_assoc]
theorem mJ (l:List UInt8):∀(LS:List (List UInt8)) (b:Nat),de b (LS++[l])=de b LS+l.length-1
 |[],b=>by simp[de]
 |x::r,b=>by
  simp only[cons_append,de];exact mJ l r _
theorem se {S:List Arc}(c:∀l∈LS,1<=l.length)(b:gI (gN 2 LS) S):mD LS ⟨(de 2 LS:Nat),0,[1],S⟩:=
 ⟨rfl,rfl,rfl,b.1,fun a=>by rw[b.2,sG a LS 2 c]⟩
def cpS (LS:List (List UInt8))(k:Nat):Nat:=de 2 (LS.take k)
def cpA (LS:List (List UInt8))(k:Nat):List Arc:=gN 2 (LS.take k)
theorem vZ (hk:k<LS.length):cpS LS (k+1)=cpS LS k+LS[k].length-1:=by
 unfold cpS;rw[take_add_one,getElem?_eq_getElem hk];exact mJ _ _ _
theorem ru (hk:k<LS.length):cpA LS (k+1)=cpA LS k++fr LS[k] (cpS LS k) LS[k].length:=by
 unfold cpA cpS;rw[take_add_one,getElem?_eq_getElem hk];exact qE _ _ _
theorem nC (a:∀l∈LS,l.length<=3):∀k,k<=LS.length->(cpA LS k).length<=6*k
 |0,_=>by simp[cpA,gN]
 |k+1,hk=>by
  rw[ru (by omega),length_append];have h1:=nC a k (by omega);have b:=ry (LS[k]'(by omega)) (cpS LS k) (LS[k]'(by omega)).length;have c:=a _ (getElem_mem (show k<LS.length by omega));omega
theorem pO {l:List UInt8}(h:j+1<l.length):gh l b j=((b+j:Nat):Int):=by
 unfold gh;rw[if_neg (by omega)];omega
theorem sA {l:List UInt8}(h:j+1=l.length):gh l b j=1:=by unfold gh;rw[if_pos h]
theorem mL {l:List UInt8}(h:j+1<l.length):eR b (j+1)=gh l b j:=by
 rw[pO h];unfold eR;rw[if_neg (by omega),show j+1-1=j by omega];omega
def rdL (L:List (List UInt8))(t:List UInt8):List Int:=(cB L t).letters
def ids (L:List (List UInt8))(ls:List (List UInt8)):List Int:=ls.map (fun l=>((L.idxOf l:Nat):Int))
def txt (L:List (List UInt8))(i:Int):List UInt8:=L[i.toNat]?.getD []
section
variable {L : List (List UInt8)}
theorem ox (b:Told L):∀(ls:List (List UInt8)) (f o:Nat) (acc:List Int),(∀m∈ls,m∈L)->ls.length<=f->(dc L f ls.flatten o acc).letters=acc++ids L ls
 |[],f,o,acc,_,_=>by cases f<;>simp[dc,ids]
 |l::ls,f,o,acc,g,p=>by
  have j:=g l (mem_cons_self ..);have c:∀m∈ls,m∈L:=fun m hm=>g m (mem_cons_of_mem _ hm);obtain⟨k,i,d⟩:=AR b j c;have n:¬(l++ls.flatten=[]):=fun e=>by
   have:=(b.len l j).1;rw[(append_eq_nil_iff.1 e).1]at this;simp at this
  rw[length_cons]at p;obtain⟨a,rfl⟩:∃a,f=a+1:=⟨f-1,by omega⟩;have e:dc L (a+1) (l++ls.flatten) o acc=dc L a ls.flatten (o+l.length) (acc++[(k:Int)]):=by
   conv=>lhs;unfold dc
   rw[if_neg n,i];simp only[d,Option.getD_some,drop_left]
  rw[flatten_cons,e,ox b ls a _ _ c (by omega),append_assoc];unfold ids;rw[map_cons,idxOf_getElem b.nodup d];rfl
theorem Dn (c:Told L){t:List UInt8}(h:(cB L t).err=0):∃ls:List (List UInt8),ls≠[]/\(∀m∈ls,m∈L)/\t=ls.flatten/\rdL L t=ids L ls:=by
 obtain⟨ls,h1,a,rfl⟩:=yG.1 (qB h);have d:=kJ (fun l d=>(c.len l d).1) ls a;have hp:=length_pos_iff.2 h1;have g:¬ls.flatten=[]:=fun e=>by rw[e,length_nil]at d;omega
 refine⟨ls,h1,a,rfl,?_⟩;unfold rdL;unfold cB at h⊢;rw[if_neg g]at h⊢;have f:ls.length<=24:=by
  rcases Nat.lt_or_ge 24 ls.length with b |b
  .rw[(lL c ls 24 0 [] a).2 b]at h;simp at h
  .exact b
 rw[ox c ls 24 0 [] a f,nil_append]
variable {all : List db}
end
end
section
open Go.RowKit Classical
theorem uP (c:UInt8):wrap64 (c.toNat:Int)=c.toNat:=by
 have:=c.toNat_lt;unfold wrap64;omega
theorem BP (L:List (List UInt8)):∀(f:Nat) (t:List UInt8) (o:Nat) (acc:List Int),(dc L f t o acc).letters.length<=acc.length+f:=by
 intro f;induction f with
 |zero=>
  intro t o acc;rw[dc];repeat' split;all_goals simp
 |succ f a=>
  intro t o acc;rw[dc];split
  .simp
  .split
   .simp
   .refine Nat.le_trans (a _ _ _) ?_;simp;omega
theorem xy (L:List (List UInt8))(t:List UInt8):(cB L t).letters.length<=24:=by
 unfold cB;split
 .simp
 .simpa using BP L 24 t 0 []
def Rul.l (r:Rul):db:=⟨bl r.src,bl r.dst,bl r.nxt,r.fin⟩
set_option maxRecDepth 100000
set_option maxHeartbeats 4000000
theorem ph (s:ByteArray)(i:Nat)(w:World)(_hs:s.size<=maxLen):
  Calls prog 213 #[.string s,.int .i64 i] w fun e w'=>e= .returned (.int .i64 (dv (bl s) i))/\w'=w:=by
 unfold maxLen at _hs;go_enter func213,ntmps213;by_cases c:i<s.size
 .have a:=bP (dU s i c);go_wp2;go_ret;refine⟨dL ?_,rfl⟩;rw[dv,a.out];exact uP _
 .have a:(bl s)[i]?=none:=getElem?_eq_none (by rw[b9];omega);have b:=bP a;clear a;go_wp2;go_ret;exact⟨dL (by rw[dv,b.out]),rfl⟩
theorem vP (x o:Rul)(A:cr)(f:vr A)(hx:x.src.size<=maxLen/\x.dst.size<=maxLen/\x.nxt.size<=maxLen)(ho:o.src.size<=maxLen/\o.dst.size<=maxLen/\o.nxt.size<=maxLen)
  (aa:(cB A.bls (bl x.src)).letters≠[])(v:Value)(w:World)(h:cH w w.heap.size v A):
  Calls prog 212 #[.agg #[.string x.src,.string x.dst,.string x.nxt,.bool x.fin],.agg #[.string o.src,.string o.dst,.string o.nxt,.bool o.fin],v] w
   fun e w'=>e= .returned (.bool (jT A.bls x.l o.l))/\Below w.heap.size w w':=by
 have R:=h;obtain⟨la,lc,sa,sc,rfl,hn,ax,az,ay,hl,aA⟩:=h;go_enter func212,ntmps212;go_wp2_with fail;generalize b:(((w.alloc _).alloc _).alloc _)=C;have m:Below w.heap.size w C:=by rw[<-b];exact((bX.alloc bW _).alloc (by simp) _).alloc (by simp;omega) _
 have V:Box C (w.heap.size+1) [Value.string o.src,.string o.dst,.string o.nxt,.bool o.fin]:=by
  rw[<-b];have:=(Box.new (w.alloc (.cells #[Value.string x.src,.string x.dst,.string x.nxt,.bool x.fin] 88)) [Value.string o.src,.string o.dst,.string o.nxt,.bool o.fin] 88);simp at this;exact this.alloc (by simp) _
 have U:Box C (w.heap.size+2) [Value.string A.name,.slice la A.letters.length lc,.slice sa A.small.length sc]:=by
  rw[<-b];have:=(Box.new ((w.alloc (.cells #[Value.string x.src,.string x.dst,.string x.nxt,.bool x.fin] 88)).alloc (.cells #[Value.string o.src,.string o.dst,.string o.nxt,.bool o.fin] 88)) [Value.string A.name,.slice la A.letters.length lc,.slice sa A.small.length sc] 83);simpa using this
 have aB:C.heap.size=w.heap.size+3:=by rw[<-b];simp
 clear b;refine(ij A f.nodup f.len x.src hx.1 _ _ ((R.below m bW).more m.size)).mono ?_;rintro e w1 ⟨u,rfl,P,r⟩;obtain⟨ua,uc,rfl,_,Q⟩:=b8.ah P;have a:=m.trans (r.mono m.size);obtain⟨o0,o1,o2,o3⟩:=(V.below r (by omega)).c4;obtain⟨a0,a1,a2⟩:=(U.below r (by omega)).c3;go_wp2_with fail;refine(ij A f.nodup f.len o.nxt ho.2.2 _ _ ((R.below a bW).more a.size)).mono ?_;rintro e w2 ⟨u2,rfl,D,s⟩;obtain⟨va,vc,rfl,_,E⟩:=b8.ah D;have t:=a.trans (s.mono a.size);have B:0<(cB A.bls (bl x.src)).letters.length:=by
  cases e:(cB A.bls (bl x.src)).letters with
  |nil=>exact absurd e aa
  |cons=>simp
 obtain⟨g,q,rfl,hg,n⟩:=Q.nums B;have x0:=(s.cell (p:=⟨g,q+0,none⟩) hg).trans (n 0 B);simp only[Nat.add_zero]at x0;clear o0 o1 o2 o3 a0 a1 a2 n;generalize T:(cB A.bls (bl x.src)).letters=X at *;generalize S:(cB A.bls (bl o.nxt)).letters=N at *;have HX:=bP T;have M:=bP S;clear T S;go_wp2_with fail;have I:fQ A.bls x.l.src=X[0]:=by
  unfold fQ;rw[show x.l.src=bl x.src from rfl,HX.out,getElem?_eq_getElem B];rfl
 have F:=bP I;clear I;go_loopw [13] (fun i wr=>∃k:Nat,k<=N.length/\i= .int .i64 k/\(∀(j:Nat) c,j<k->N[j]?=some c->c≠X[0])/\Below w2.heap.size w2 wr) (fun i _=>N.length-(intOf i).toNat);case atStart=>exact⟨0,zero_le _,rfl,by simp,bX⟩
 case round=>
  obtain⟨k,hk,rfl,J,d⟩:=hrel;have G:=bP J;clear J;have L:=t.trans (d.mono t.size);have y0:=(d.cell (p:=⟨g,q,none⟩) (by have:=s.size;simp;omega)).trans x0;have aj:N.length<=24:=by rw[<-M.out];exact xy _ _
  by_cases z:k<N.length
  .obtain⟨g',q',rfl,Y,H⟩:=E.nums (by omega);have z0:=(d.cell (p:=⟨g',q'+k,none⟩) Y).trans (H k z);clear H;by_cases he:N[k]=X[0]
   .have d1:(N[k]==X[0])=true:=by simp[he]
    have O:=bP he;clear he;go_wp2_with fail;go_quiet (fail);go_wp2;go_ret;refine⟨cX ?_,Go.below_drewN L _⟩;unfold jT;rw[F.out,show o.l.nxt=bl o.nxt from rfl,M.out,eq_comm,contains_iff_mem];exact O.out▸getElem_mem z
   .have d1:(N[k]==X[0])=false:=by simp[he]
    have O:=bP he;clear he;go_wp2_with fail;go_quiet (fail);go_wp2;refine⟨⟨k+1,by omega,by go_num,fun j c y n=>?_,Go.below_drewN d _⟩,by simp[intOf];omega⟩;rcases Nat.lt_succ_iff_lt_or_eq.1 y with y |rfl
    .exact G.out j c y n
    .rw[getElem?_eq_getElem z]at n;obtain rfl:=Option.some.inj n;exact O.out
  .go_wp2;go_ret;refine⟨cX ?_,L⟩;unfold jT;rw[F.out,show o.l.nxt=bl o.nxt from rfl,M.out,eq_comm,<-Bool.not_eq_true,contains_iff_mem];intro hm;obtain⟨j,y,Z⟩:=getElem_of_mem hm;exact G.out j _ (by omega) (getElem?_eq_getElem y) Z
end
section
open Go Classical
end
section
open Go.RowKit Classical
def gC (w:World)(e:TypeId)(v:Value)(n:Nat)(cs:List Value):Prop:=cs.length=n*2/\
 ((n=0/\∃a,v= .slice a 0 0)\/∃g off cap cur,v= .slice (some ⟨g,off,none⟩) n cap/\0<cap/\w.heap[g]?=some (.cells cur e (0,0))/\cur.size=off+cap*2/\n<=cap/\cap<=maxLen/\∀j,j<n*2->cur[off+j]?=cs[j]?)
def dC (v:Value)(k:Nat):Prop:=∃off n cap,v= .slice (some ⟨k,off,none⟩) n cap/\0<cap
theorem gC.slice {e:TypeId}{v:Value}{n:Nat}(h:gC w e v n cs):∃a c,v= .slice a n c:=by
 rcases h.2 with ⟨rfl,b,rfl⟩ |⟨g,off,cap,cur,rfl,_⟩
 .exact⟨_,_,rfl⟩
 .exact⟨_,_,rfl⟩
theorem gC.lt {e:TypeId}{v:Value}{n:Nat}(h:gC w e v n cs)(hk:dC v k):k<w.heap.size:=by
 obtain⟨c,i,a,rfl,f⟩:=hk;rcases h.2 with ⟨rfl,d,e'⟩ |⟨g,off,cap,cur,e',_,b,_⟩
 .cases e';omega
 .cases e';exact(Array.getElem?_eq_some_iff.1 b).1
theorem gC.cells {e:TypeId}{v:Value}{n:Nat}(h:gC w e v n cs)(hk:dC v k):∃cur,Blk w k cur e:=by
 obtain⟨c,i,a,rfl,f⟩:=hk;rcases h.2 with ⟨rfl,d,e'⟩ |⟨g,off,cap,cur,e',_,b,_⟩
 .cases e';omega
 .cases e';exact⟨cur,b⟩
theorem gC.ah {base:Nat}{e:TypeId}{v:Value}{n:Nat}(h:w.ownsRow base e 2 v n cs):gC w e v n cs:=by
 obtain⟨a,h1⟩:=h;rcases h1 with ⟨rfl,rfl⟩ |⟨g,cap,cur,rfl,k,c,f,hm,l,i⟩
 .exact⟨a,.inl ⟨rfl,_,rfl⟩⟩
 .rcases eq_zero_or_pos cap with rfl |b
  .obtain rfl:n=0:=by omega
   exact⟨a,.inl ⟨rfl,_,rfl⟩⟩
  .refine⟨a,.inr ⟨g,0,cap,cur,rfl,b,c,by omega,f,hm,fun j d=>?_⟩⟩;rw[Nat.zero_add,<-i,getElem?_take,if_pos d,Array.getElem?_toList]
theorem gC.chg {S:Nat->Prop}{e:TypeId}{v:Value}{n:Nat}(h:gC w e v n cs)(f:Chg S w w')(d:∀k,dC v k->¬S k):gC w' e v n cs:=by
 obtain⟨c,h1⟩:=h;rcases h1 with h1 |⟨g,off,cap,cur,rfl,a,b,r⟩
 .exact⟨c,.inl h1⟩
 .exact⟨c,.inr ⟨g,off,cap,cur,rfl,a,(f.block g (Array.getElem?_eq_some_iff.1 b).1 (d g ⟨_,_,_,rfl,a⟩)).trans b,r⟩⟩
theorem xx {base:Nat}{e:TypeId}{v:Value}{n:Nat}(h:w'.ownsRow base e 2 v n cs):∀k,dC v k->base<=k:=by
 rintro k ⟨off,d,cap,rfl,c⟩;rcases h.2 with ⟨e',_⟩ |⟨g,a,cur,e',b,_⟩
 .cases e'
 .cases e';exact b
theorem te {P:Program}(w:World){ops:Array Oper}{rest:List Oper}{o:Oper}{a:Act}{Q:Exit->Act->World->Prop}
  (U:o.guard=none)(s x:Operand)(t:TypeId)(B:o.op=Op.call { callee:=Callee.builtin Builtin.append,args:= #[s,x],argTypes:= #[t,t] })
  (e:TypeId)(i:TypeInfo)(z:Value)(bytes:Nat)(h1:P.underlying t=some (.slice e))(I:P.info? e=some i)(J:i.zero=some z)(L:i.size=2)(M:i.bytes=bytes)(N:z.cells.size=2)
  (v:Value)(n:Nat)(cs:List Value)(X:a.eval s=v)(D:gC w e v n cs)(q:Addr)(c:Nat)(news:List Value)(Z:a.eval x= .slice (some q) 1 c)(hn:news.length=2)(R:∀j u,news[j]?=some u->w.cell? (q.add j)=some u)(y:∀u∈news,u.oneCell'=true)
  (F:n+1<=maxLen)(G:(n+1)*bytes<=140737488355328)
  (hK:∀v' w',gC w' e v' (n+1) (cs++news)->Chg (fun k=>dC v k) w w'->(∀k,dC v' k->dC v k\/w.heap.size<=k)->wpList P ops Q rest (a.put o.dst v') w'):
  wpList P ops Q (o::rest) a w:=by
 obtain⟨d,D⟩:=D;rcases D with ⟨rfl,ao,rfl⟩ |⟨g,off,cap,cur,rfl,f,C,Y,ai,T,A⟩
 .obtain rfl:cs=[]:=eq_nil_of_length_eq_zero (by simpa using d);exact wpList_append_grows w U s x t B e i z 2 bytes h1 I J L M N (by omega) ao 0 0 [] X (fun _=>⟨rfl,rfl⟩) (by simp) (by simp) q 1 c news Z (by omega) R y (by omega) F G
   (fun v' w' b l=>hK v' w' (gC.ah b) (Chg.ax l (by simp)) (fun k hk=> .inr (xx b k hk)))
 .have m:∀j,j<cap*2->w.cell? ⟨g,off+j,none⟩=cur[off+j]?:=fun j _=>cell_of_row w g (off+j) cur e (0,0) C;refine wpList_append_arg w U s x t B e i z 2 bytes h1 I J L M N (by omega) g off n cap cs X d (fun j u r=>?_) q 1 c news Z (by omega) R y (fun E j r=>?_) F G (fun E=>?_) (fun E v' w' b l=>?_)
  .have V:j<n*2:=by rw[<-d];exact(List.getElem?_eq_some_iff.1 r).1
   rw[m j (by omega),A j V];exact r
  .have ag:j<2:=by omega
   refine⟨?_,by simp[frozen?,C]⟩;rw[Nat.add_assoc,m (n*2+j) (by omega),Array.getElem?_eq_getElem (by omega)];rfl
  .obtain⟨x0,x1,rfl⟩:∃x0 x1,news=[x0,x1]:=by
    match news,hn with
    |[x0,x1],_=>exact⟨x0,x1,rfl⟩
   have hb:Blk w g cur e:=C;have O:=(hb.aj (off+n*2) x0).aj (off+n*2+1) x1;refine hK _ _ ⟨by simp;omega,.inr ⟨g,off,cap,_,rfl,f,O,by simpa using Y,E,T,fun j r=>?_⟩⟩ ?_ (fun k hk=> .inl ?_)
   .simp only[Array.getElem?_setIfInBounds,Array.size_setIfInBounds];by_cases h0:j<n*2
    .rw[if_neg (by omega),if_neg (by omega),A j h0,getElem?_append_left (by omega)]
    .rcases Nat.lt_or_ge j (n*2+1)with H |H
     .obtain rfl:j=n*2:=by omega
      rw[if_neg (by omega),if_pos rfl,if_pos (by omega),getElem?_append_right (by omega),d];simp
     .obtain rfl:j=n*2+1:=by omega
      rw[if_pos (by omega),if_pos (by omega),getElem?_append_right (by omega),d];simp
   .exact(Chg.setCell (S:=fun k=>dC (.slice (some ⟨g,off,none⟩) n cap) k) (p:=⟨g,off+n*2,none⟩) _ (.inl ⟨_,_,_,rfl,f⟩) _).trans (Chg.setCell (S:=fun k=>dC (.slice (some ⟨g,off,none⟩) n cap) k) (p:=⟨g,off+n*2+1,none⟩) _ (.inl ⟨_,_,_,rfl,f⟩) _)
   .obtain⟨o',n',c',e',h'⟩:=hk;cases e';exact⟨_,_,_,rfl,f⟩
  .exact hK v' w' (gC.ah b) (Chg.ax l (by simp)) (fun k hk=> .inr (xx b k hk))
def kI (q:List Plc):List Value:=q.flatMap fun p=>[.int .i64 p.st,.string p.tx]
theorem zL (q:List Plc)(p:Plc):kI (q++[p])=kI q++[.int .i64 p.st,.string p.tx]:=by simp[kI]
theorem lI (q:List Plc)(p:Plc):kI (p::q)= .int .i64 p.st:: .string p.tx::kI q:=by simp[kI]
theorem wM (q:List Plc):(kI q).length=q.length*2:=by
 induction q with
 |nil=>rfl
 |cons x q a=>rw[lI];simp[a];omega
structure gZ (w:World)(b bq:Nat)(ks q:List Plc)(v:Value):Prop where
 set:cy w b fM (ks.map eM)
 box:Blk w bq #[v] 232
 row:gC w 159 v q.length (kI q)
theorem gZ.apart {c:Nat}{q:List Plc}{v:Value}(h:gZ w b c ks q v):∀k,dC v k->k≠b/\k≠c:=by
 intro k hk;obtain⟨cur,a⟩:=h.row.cells hk;unfold Blk at a;refine⟨fun e=>?_,fun e=>?_⟩
 .subst e;obtain⟨es,cl,hm,_⟩:=h.set;rw[a]at hm;cases hm
 .subst e;have:=h.box;unfold Blk at this;rw[a]at this;injection this with h1;injection h1 with _ d;exact absurd d (by decide)
theorem gZ.chg {S:Nat->Prop}{a:Nat}{q:List Plc}{v:Value}(h:gZ w b a ks q v)(c:Chg S w w')(d:¬S b)(e:¬S a)(f:∀k,dC v k->¬S k):gZ w' b a ks q v:=
 ⟨ch.chg h.set c d,h.box.chg c e,h.row.chg c f⟩
theorem rJ {p:Plc}:eM p∈ks.map eM↔p∈ks:=by
 rw[mem_map];exact⟨fun⟨y,a,e⟩=>xv e▸a,fun h=>⟨p,h,rfl⟩⟩
def AM (b a:Nat)(ks q:List Plc)(v:Value)(p:Plc)(w:World)(e:Ending)(w':World):Prop:=
 e= .returned (.tuple #[])/\∃v',gZ w' b a (eC ks p) (q++tB ks p) v'/\Chg (fun k=>k=b\/k=a\/dC v k) w w'/\(∀k,dC v' k->dC v k\/w.heap.size<=k)
theorem tg (w:World):(zeroValue 4).run prog w= .ok (.bool false) w:=by kernel_rfl
theorem zT:(prog.info? 159).map (fun i=>(i.zero,i.size,i.bytes))=some (some (.agg #[.int .i64 0,.string ⟨#[]⟩]),2,24):=by kernel_rfl
set_option maxRecDepth 100000
set_option maxHeartbeats 4000000
theorem pW (n b f:Nat)(ks q:List Plc)(v:Value)(p:Plc)(w:World)(Z:w.cell? ⟨n,0,none⟩=some (.map (some b)))(h:gZ w b f ks q v)(V:b≠f)(ae:n≠b/\n≠f)(hl:q.length<=1000000000):
  Calls prog 164 #[.agg #[.int .i64 p.st,.string p.tx],.pointer (some ⟨n,0,none⟩),.pointer (some ⟨f,0,none⟩)] w (AM b f ks q v p w):=by
 obtain⟨i0,hi,af,ag,ah⟩:=info_parts zT;obtain⟨i,C⟩:∃i:World,i=w.alloc (.cells #[.int .i64 p.st,.string p.tx] 159):=⟨_,rfl⟩;have E:Below w.heap.size w i:=by rw[C];exact bX.alloc bW _
 have R:Chg (fun k=>k=b\/k=f\/dC v k) w i:=Chg.ai _ E;have a:gZ i b f ks q v:=h.chg (S:=fun _=>False) (Chg.ai _ E) (fun h=>h) (fun h=>h) (fun _ _ h=>h);have F:Blk i w.heap.size #[.int .i64 p.st,.string p.tx] 159:=by rw[C];exact Blk.new _ _ _
 have t0:i.cell? ⟨n,0,none⟩=some (.map (some b)):=(E.cell (p:=⟨n,0,none⟩) (da Z)).trans Z;have p0:=F.cell 0;have p1:=F.cell 1;simp only[getElem?_toArray,getElem?_cons_zero,getElem?_cons_succ]at p0 p1;have Q:=bP C;have N:=bS R a F;clear C R F Z;by_cases hm:p∈ks
 .have s:=cy.look a.set sy underlying155 (tg i) (key:=eM p) ⟨p,rfl⟩;rw[decide_eq_true (rJ.2 hm)]at s;unfold eM at s;have O:=bP hm;clear hm a h;go_enter func164,ntmps164;go_upto_region 1 with (fail);rw[<-Q.out];go_wp2_with fail;refine bodyPost_end (v:= .tuple #[]) (by simp[results,results164,go_sem]) rfl ?_;refine⟨rfl,v,?_,N.out.1,fun k hk=> .inl hk⟩;rw[eC,tB,if_pos O.out,if_pos O.out,append_nil];exact N.out.2.1
 .have s:=cy.look a.set sy underlying155 (tg i) (key:=eM p) ⟨p,rfl⟩;rw[decide_eq_false (fun h=>hm (rJ.1 h))]at s;obtain⟨A,Y,X,T,aa⟩:=cy.put a.set sy underlying155 (key:=eM p) ⟨p,rfl⟩;unfold eM at s Y;have O:=bP hm;have c:Chg (fun k=>k=b) i A:=Chg.ax T (fun r hr=>by cases hr;exact .inl rfl);have aE:=ch.lt h.set;have L:=a.apart;have x:=a.box.chg c (Ne.symm V);have q0:=x.cell 0;have z:=N.out.2.2.chg c (show w.heap.size≠b by omega);have ak:=z.cell 0;have al:=z.cell 1;have t2:A.cell? ⟨n,0,none⟩=some (.map (some b)):=(eN (c.block n (da t0) ae.1) 0).trans t0;simp only[getElem?_toArray,getElem?_cons_zero,getElem?_cons_succ]at ak al q0;have G:=a.row.chg c (fun k hk=>(L k hk).1);obtain⟨I,D⟩:∃I:World,I=A.alloc (.cells #[.int .i64 p.st,.string p.tx] 159):=⟨_,rfl⟩;have d:Chg (fun _=>False) A I:=by rw[D];exact Chg.alloc _ _ _
  have H:=G.chg d (fun _ _ h=>h);have U:Blk I A.heap.size #[.int .i64 p.st,.string p.tx] 159:=by rw[D];exact Blk.new _ _ _
  have M:∀j u,[Value.int .i64 p.st,.string p.tx][j]?=some u->I.cell? ((⟨A.heap.size,0,none⟩:Addr).add j)=some u:=fun j u hj=>by
   rw[Addr.add_lit,Nat.zero_add,U.cell j];simpa using hj
  have y:=x.chg d (fun h=>h);have ad:=bP D;have g:cy I b fM ((eC ks p).map eM):=by
   rw[eC,if_neg hm,map_append];have:=ch.chg X d (fun h=>h);rw[jQ,if_neg (fun h=>hm (rJ.1 h))]at this;exact this
  have H3:=bT g y c d;have J:=bP L;have aD:=a.box.lt;have ay:=c.size;have az:=d.size;have aw:=E.size;have ao:=h.box.lt;obtain⟨va,vc,rfl⟩:=a.row.slice;have B:=bQ H M;clear D X T aa c d L x y z G g U hm a h M H;go_enter func164,ntmps164;go_upto_region 1 with (fail);rw[<-Q.out];go_wp2_with ((at_builtin;rw[<-ad.out];refine te _ rfl _ _ 232 rfl 159 i0 _ 24 underlying232 hi af ag ah rfl _ q.length (kI q) rfl B.out.1 ⟨A.heap.size,0,none⟩ 1 [.int .i64 p.st,.string p.tx] rfl rfl B.out.2 (by simp[Value.oneCell']) (by unfold maxLen;omega) (by omega) ?_;intro v' w4 t m o;obtain⟨a4,c4,rfl⟩:=t.slice;have l:=H3.out.2.1.chg m (fun hk=>(J.out _ hk).2 rfl);have x4:=l.cell 0;have f4:=l.frozen 0;have H4:=bT t m o l;clear t m o l));refine bodyPost_end (v:= .tuple #[]) (by simp[results,results164,go_sem]) rfl ?_;obtain⟨t,m,o,l⟩:=H4.out;obtain⟨g,y,c,d⟩:=H3.out;have P:=ch.chg g m (fun hk=>(J.out _ hk).1 rfl);refine⟨rfl,_,⟨ch.setCell P (p:=⟨f,0,none⟩) (Ne.symm V) _,Blk.aj l 0 _,?_⟩,?_,fun k hk=>?_⟩
  .rw[tB,if_neg O.out,zL,length_append];refine gC.chg t (Chg.setCell (S:=fun k=>k=f) (p:=⟨f,0,none⟩) _ (.inl rfl) _) (fun k hk e=>?_);rcases o k hk with h1 |h1
   .exact(J.out k h1).2 e
   .omega
  .refine(((N.out.1.trans (c.mono (fun k hk=> .inl hk))).trans (d.mono (fun k hk=>hk.elim))).trans (m.mono (fun k hk=> .inr (.inr hk)))).trans (Chg.setCell (S:=fun k=>k=b\/k=f\/dC _ k) (p:=⟨f,0,none⟩) _ (.inl (.inr (.inl rfl))) _)
  .rcases o k hk with h1 |h1
   .exact .inl h1
   .exact .inr (by omega)
def gd (xs:List Bool):List Value:=xs.map Value.bool
theorem tV (xs:List Bool)(i:Nat)(b:Bool):(gd xs).toArray.setIfInBounds i (.bool b)=(gd (xs.set i b)).toArray:=by
 simp[gd,map_set]
theorem Blk.bd {a:Nat}{cs:Array Value}{t:TypeId}{Ok:Value->Prop}{l:List (Value×Value)}(h:Blk w b cs t)(d:ch w a Ok l):b≠a:=by
 rintro rfl;obtain⟨es,clock,c,_⟩:=d;unfold Blk at h;rw[h]at c;cases c
theorem gF {base:Nat}{e:TypeId}{size n:Nat}{v:Value}{xs:List Value}(h:w.ownsRow base e size v n xs){a:Nat}{Ok:Value->Prop}{l:List (Value×Value)}(d:ch w a Ok l):v.ownBlock≠some a:=by
 obtain⟨es,clock,b,_⟩:=d;rcases h.2 with ⟨rfl,_⟩ |⟨g,cap,cur,rfl,_,f,_⟩
 .intro e;cases e
 .intro e;have c:g=a:=by injection e
  subst c;rw[f]at b;cases b
def Fw (l:List (Int×Int)):List Value:=l.flatMap (fun p=>[Value.int .i64 p.1,.int .i64 p.2])
theorem uR (w:World):(zeroValue 29).run prog w= .ok (.slice none 0 0) w:=by kernel_rfl
theorem AG (w:World):(zeroValue 3).run prog w= .ok (.int .i64 0) w:=by kernel_rfl
def chV (x:ByteArray×ByteArray):Value:= .agg #[.string x.1,.string x.2]
def gK (v:Value):Prop:=∃x,v=chV x
theorem yH {x y:ByteArray×ByteArray}(h:chV x=chV y):x=y:=by
 cases x;cases y;simpa [chV]using h
theorem AW {x y:ByteArray×ByteArray}:chV x=chV y↔x=y:=⟨yH,fun h=>by rw[h]⟩
theorem Ez (x y:ByteArray×ByteArray)(w:World):(binOp .eql 63 (.agg #[.string x.1,.string x.2]) (.agg #[.string y.1,.string y.2])).run prog w= .ok (.bool (decide (x=y))) w:=by
 have f:prog.underlying 63=some (.struct (prog.fieldsOf 63)):=by kernel_rfl
 have hp:prog.stoodInHeld 63=false:=by kernel_rfl
 rw[run_eql_struct,show(10000:Nat)=9999+1 from rfl,run_equalIn_agg w 9999 63 _ _ f hp];simp only[Program.fieldsOf,underlying63];go_simp;have g:∀a b:ByteArray,a.toList=b.toList↔a=b:=fun a b=>by
  rw[ByteArray.toList_eq,ByteArray.toList_eq];exact⟨fun h=>cY h,fun h=>by rw[h]⟩
 obtain⟨a,b⟩:=x;obtain⟨c,d⟩:=y;simp only[Prod.mk.injEq];simp only[g];by_cases h1:a=c<;>by_cases e:b=d<;>simp[h1,e]
theorem sx:jh prog 63 gK:=by
 have b:prog.underlying 63=some (.struct (prog.fieldsOf 63)):=by kernel_rfl
 refine iv b ?_ ?_ ?_ ?_
 .rintro _ _ ⟨x,rfl⟩ ⟨y,rfl⟩;rfl
 .rintro em w _ ⟨x,rfl⟩;unfold chV;rw[show(10000:Nat)=9998+1+1 from rfl,Instr.checkKey];simp only[Sem.run_bind,run_underlying underlying63,Result.andThen_ok];rw[<-Array.forIn_toList];go_simp;simp only[mI,Result.andThen_ok]
 .rintro _ ⟨x,rfl⟩;have c:=fun a:ByteArray=>(MapKept.bytes_beq a a).2 rfl;simp[chV,Instr.sameBits,c]
 .rintro w _ _ ⟨x,rfl⟩ ⟨y,rfl⟩;have:=iL (Ez x y w);rw[show(Op.equal 63 (chV x) (chV y)).run prog w= .ok (decide (x=y)) w from this];congr 1;rw[decide_eq_decide,AW]
def ew (es:List ((ByteArray×ByteArray)×Int)):List (Value×Value):=es.map (fun p=>(chV p.1,.int .i64 p.2))
theorem vY {k:ByteArray×ByteArray}(h:∀p∈es,p.1≠k):∀p∈ew es,p.1≠chV k:=fun p hp he=>by
 obtain⟨q,a,rfl⟩:=mem_map.1 hp;exact h q a (yH he)
theorem rq {k:ByteArray×ByteArray}{d:Int}(h:(k,d)∈es):(chV k,Value.int .i64 d)∈ew es:=mem_map.2 ⟨_,h,rfl⟩
theorem zD (es:List ((ByteArray×ByteArray)×Int)):(ew es).map (·.1)=(es.map (·.1)).map chV:=by
 unfold ew;rw[map_map,map_map];rfl
theorem rr {S:ByteArray×ByteArray->Int->Prop}{e:Nat}(hC:dZ S es)(o:ch w e gK (ew es))(x y:ByteArray)(c0:Int)(hle:∀d,((x,y),d)∈es->c0<=d):
  ∃w' b,(Instr.mapUpdate 61 (.map (some e)) (.agg #[.string x,.string y]) (.int .i64 c0)).run prog w= .ok () w'/\ch w' e gK (ew b)/\dZ (fun k c=>S k c\/(k=(x,y)/\c=c0)) b/\w.grownBy w' (some e)/\w'.heap.size=w.heap.size/\b.length<=es.length+1:=by
 obtain⟨k0,a⟩:∃k0:ByteArray×ByteArray,(x,y)=k0:=⟨_,rfl⟩;have m:x=k0.1:=by rw[<-a]
 have n:y=k0.2:=by rw[<-a]
 rw[a]at hle⊢;rw[m,n];clear a m n;rcases hC.look k0 with f |⟨d,l⟩
 .obtain⟨w',h1,g,i,j⟩:=o.aB sx underlying61 (key:=chV k0) ⟨k0,rfl⟩ (vY f) (.int .i64 c0);refine⟨w',es++[(k0,c0)],h1,?_,hC.aB f,i,j,by simp⟩;have:ew (es++[(k0,c0)])=ew es++[(chV k0,.int .i64 c0)]:=by simp[ew]
  rw[this];exact g
 .obtain⟨w',h1,g,i,j⟩:=o.aK sx underlying61 (rq l) (.int .i64 c0);refine⟨w',qb es k0 c0,h1,?_,hC.aK l (hle d l),i,j,by simp[qb]⟩;have:ew (qb es k0 c0)=(ew es).map (fun p=>if p.1=chV k0 then (chV k0,Value.int .i64 c0) else p):=by
   unfold ew qb;rw[map_map,map_map];refine map_congr_left (fun p _=>?_);simp only[Function.comp_apply,AW];split<;>rfl
  rw[this];exact g
theorem AY {S:ByteArray×ByteArray->Int->Prop}(hC:dZ S es)(x y:ByteArray):
  ∃(v:Int) (t:Bool),(∀(w:World) (b:Nat),ch w b gK (ew es)->(Instr.lookup 61 (.map (some b)) (.agg #[.string x,.string y]) true).run prog w= .ok (.tuple #[.int .i64 v,.bool t]) w)/\
   ((t=true/\((x,y),v)∈es)\/(t=false/\v=0/\∀d,((x,y),d)∉es)):=by
 obtain⟨k0,a⟩:∃k0:ByteArray×ByteArray,(x,y)=k0:=⟨_,rfl⟩;have g:x=k0.1:=by rw[<-a]
 have i:y=k0.2:=by rw[<-a]
 rw[a,g,i];clear a g i;rcases hC.look k0 with e |⟨d,c⟩
 .refine⟨0,false,fun w b f=>?_,.inr ⟨rfl,rfl,fun d c=>e _ c rfl⟩⟩;have:=f.aA sx underlying61 (AG w) (key:=chV k0) ⟨k0,rfl⟩ (vY e) true;rwa [if_pos rfl]at this
 .refine⟨d,true,fun w b f=>?_,.inl ⟨rfl,c⟩⟩;have:=f.ar sx underlying61 (rq c) true;rwa [if_pos rfl]at this
theorem DX {x y:ByteArray}{d:Int}(c:((x,y),d)∈es){a:Nat}(b:ch w a gK (ew es)):
  (Instr.lookup 61 (.map (some a)) (.agg #[.string x,.string y]) false).run prog w= .ok (.int .i64 (sg es (x,y))) w:=by
 have:=b.ar sx underlying61 (rq (nX c)) false;rw[if_neg (by decide)]at this;exact this
structure fx (w:World)(base bm:Nat)(l:List (ByteArray×ByteArray))(es:List (Value×Value)):Prop where
 isMap:ch w bm dR es
 own:∀p∈es,∃k:ByteArray,p.1= .string k/\cO l k≠[]/\w.ownsRow base 9 1 p.2 (cO l k).length (strs (cO l k))
 has:∀k:ByteArray,cO l k≠[]->∃v,(Value.string k,v)∈es
 apart:∀p∈es,∀q∈es,p.1≠q.1->p.2.ownBlock≠q.2.ownBlock
theorem fx.look {base:Nat}{l:List (ByteArray×ByteArray)}{es:List (Value×Value)}(h:fx w base bm l es)(k:ByteArray):
  ∃v0,((cO l k=[]->v0= .slice none 0 0)/\(cO l k≠[]->(Value.string k,v0)∈es))/\w.ownsRow base 9 1 v0 (cO l k).length (strs (cO l k))/\
   (Instr.lookup 65 (.map (some bm)) (.string k) false).run prog w= .ok v0 w:=by
 by_cases hk:cO l k=[]
 .have:=ch.aA h.isMap iP underlying65 (uR w) (key:= .string k) (oh k) (fun p hp he=>by
   obtain⟨d,h1,b,_⟩:=h.own p hp;rw[h1]at he;injection he with he;subst he;exact b hk) false
  rw[hk];exact⟨_,⟨fun _=>rfl,fun h=>absurd rfl h⟩,ownsRow_nil _ _ _ _,by simpa using this⟩
 .obtain⟨v,a⟩:=h.has k hk;obtain⟨d,h1,_,c⟩:=h.own _ a;injection h1 with h1;subst h1;have:=ch.ar h.isMap iP underlying65 a false;exact⟨v,⟨fun h=>absurd h hk,fun _=>a⟩,c,by simpa using this⟩
theorem fx.aW {base:Nat}{l:List (ByteArray×ByteArray)}{es:List (Value×Value)}(h:fx w base bm l es)(c:w'.heap[bm]?=w.heap[bm]?){k:ByteArray}{v0:Value}(a:(cO l k=[]->v0= .slice none 0 0)/\(cO l k≠[]->(Value.string k,v0)∈es)):
  (Instr.lookup 65 (.map (some bm)) (.string k) false).run prog w'= .ok v0 w':=by
 have hm:=h.isMap.block c;by_cases hk:cO l k=[]
 .have:=ch.aA hm iP underlying65 (uR w') (key:= .string k) (oh k) (fun p hp he=>by
   obtain⟨d,h1,b,_⟩:=h.own p hp;rw[h1]at he;injection he with he;subst he;exact b hk) false
  rw[a.1 hk];simpa using this
 .have:=ch.ar hm iP underlying65 (a.2 hk) false;simpa using this
theorem fx.below {base:Nat}{l:List (ByteArray×ByteArray)}{es:List (Value×Value)}(h:fx w base bm l es)(a:Below w.heap.size w w'):fx w' base bm l es:=
 ⟨h.isMap.below a h.isMap.lt,fun p hp=>by
  obtain⟨k,h1,b,c⟩:=h.own p hp;exact⟨k,h1,b,cJ c a⟩,h.has,h.apart⟩
theorem fx.step {W y:World}{base:Nat}{l:List (ByteArray×ByteArray)}{es:List (Value×Value)}(h:fx W base bm l es)(p:ByteArray×ByteArray){v0:Value}(N:(cO l p.1=[]->v0= .slice none 0 0)/\(cO l p.1≠[]->(Value.string p.1,v0)∈es)){g cap:Nat}
  (f:y.ownsRow base 9 1 (.slice (some ⟨g,0,none⟩) ((cO l p.1).length+1) cap) ((cO l p.1).length+1) (strs (cO l p.1)++[.string p.2]))(d:W.grownBy y v0.ownBlock)(L:v0.ownBlock=some g\/g=W.heap.size):
  ∃s Q,(Instr.mapUpdate 65 (.map (some bm)) (.string p.1) (.slice (some ⟨g,0,none⟩) ((cO l p.1).length+1) cap)).run prog y= .ok () s/\fx s base bm (l++[p]) Q/\y.grownBy s (some bm)/\s.heap.size=y.heap.size:=by
 have o:cO (l++[p]) p.1=cO l p.1++[p.2]:=by rw[sZ,if_pos rfl]
 have hold:∀k,k≠p.1->cO (l++[p]) k=cO l k:=fun k hk=>by rw[sZ,if_neg (fun e=>hk e.symm),append_nil]
 have M:(Value.slice (some ⟨g,0,none⟩) ((cO l p.1).length+1) cap).ownBlock=some g:=rfl;have n:∀q∈es,∀b,q.2.ownBlock=some b->b<W.heap.size:=fun q a b T=>by
  obtain⟨k,_,_,E⟩:=h.own q a;exact(E.lt b T).2
 by_cases hk:cO l p.1=[]
 .have e0:=N.1 hk;subst e0;have j:ch y bm dR es:=h.isMap.grown d (by intro e;cases e);have S:∀q∈es,q.1≠Value.string p.1:=fun q a he=>by
   obtain⟨k,h1,z,_⟩:=h.own q a;rw[h1]at he;injection he with he;subst he;exact z hk
  obtain⟨s,B,H,i,I⟩:=j.aB iP underlying65 (key:= .string p.1) (oh _) S (.slice (some ⟨g,0,none⟩) ((cO l p.1).length+1) cap);refine⟨s,_,B,⟨H,fun q a=>?_,fun k u=>?_,fun q a x c m=>?_⟩,i,I⟩
  .rcases mem_append.1 a with a |a
   .obtain⟨k,h1,z,E⟩:=h.own q a;have w:k≠p.1:=fun e=>z (by rw[e];exact hk);refine⟨k,h1,by rw[hold k w];exact z,?_⟩;rw[hold k w];have G:=E.kept d (.inr (by
     intro e;rcases E.2 with ⟨F,R⟩ |⟨g',_,_,F,_⟩
     .exact z (length_eq_zero_iff.1 R)
     .rw[F]at e;cases e))
    exact G.kept i (.inr (gF G j))
   .obtain rfl:q=(Value.string p.1,Value.slice (some ⟨g,0,none⟩) ((cO l p.1).length+1) cap):=by simpa using a
    refine⟨p.1,rfl,by rw[o];simp,?_⟩;rw[o,nh,length_append];exact f.kept i (.inr (gF f j))
  .by_cases e:k=p.1
   .subst e;exact⟨_,mem_append.2 (.inr (mem_singleton.2 rfl))⟩
   .rw[hold k e]at u;obtain⟨v,F⟩:=h.has k u;exact⟨v,mem_append.2 (.inl F)⟩
  .have V:g=W.heap.size:=by
    rcases L with e |e
    .cases e
    .exact e
   rcases mem_append.1 a with a |a<;>rcases mem_append.1 c with c |c
   .exact h.apart q a x c m
   .obtain rfl:x=(Value.string p.1,Value.slice (some ⟨g,0,none⟩) ((cO l p.1).length+1) cap):=by simpa using c
    intro e;have:=n q a g (e.trans M);omega
   .obtain rfl:q=(Value.string p.1,Value.slice (some ⟨g,0,none⟩) ((cO l p.1).length+1) cap):=by simpa using a
    intro e;have:=n x c g (e.symm.trans M);omega
   .obtain rfl:q=(Value.string p.1,Value.slice (some ⟨g,0,none⟩) ((cO l p.1).length+1) cap):=by simpa using a
    obtain rfl:x=(Value.string p.1,Value.slice (some ⟨g,0,none⟩) ((cO l p.1).length+1) cap):=by simpa using c
    exact absurd rfl m
 .have t:=N.2 hk;obtain⟨k0,e0,_,C⟩:=h.own _ t;injection e0 with e0;subst e0;simp only at C;have j:ch y bm dR es:=h.isMap.grown d (fun e=>gF C h.isMap e.symm);obtain⟨s,B,H,i,I⟩:=j.aK iP underlying65 t (.slice (some ⟨g,0,none⟩) ((cO l p.1).length+1) cap);have A:∀q∈es.map (fun q=>if q.1=Value.string p.1 then (Value.string p.1,Value.slice (some ⟨g,0,none⟩) ((cO l p.1).length+1) cap) else q),(q∈es/\q.1≠Value.string p.1)\/q=(Value.string p.1,Value.slice (some ⟨g,0,none⟩) ((cO l p.1).length+1) cap):=fun q a=>by
   obtain⟨r,U,rfl⟩:=mem_map.1 a;by_cases e:r.1=Value.string p.1
   .rw[if_pos e];exact .inr rfl
   .rw[if_neg e];exact .inl ⟨U,e⟩
  have J:∀q∈es,q.1≠Value.string p.1->q.2.ownBlock≠some g:=fun q a m e=>by
   rcases L with P |P
   .exact h.apart q a _ t m (by rw[e];exact P.symm)
   .have:=n q a g e;omega
  refine⟨s,_,B,⟨H,fun q a=>?_,fun k u=>?_,fun q a x c m=>?_⟩,i,I⟩
  .rcases A q a with ⟨a,D⟩ |rfl
   .obtain⟨k,h1,z,E⟩:=h.own q a;have w:k≠p.1:=fun e=>D (by rw[h1,e]);refine⟨k,h1,by rw[hold k w];exact z,?_⟩;rw[hold k w];have G:=E.kept d (.inr (h.apart q a _ t D));exact G.kept i (.inr (gF G j))
   .refine⟨p.1,rfl,by rw[o];simp,?_⟩;rw[o,nh,length_append];exact f.kept i (.inr (gF f j))
  .by_cases e:k=p.1
   .subst e;exact⟨_,mem_map.2 ⟨_,t,by rw[if_pos rfl]⟩⟩
   .rw[hold k e]at u;obtain⟨v,F⟩:=h.has k u;exact⟨v,mem_map.2 ⟨_,F,by rw[if_neg (fun e'=>e (by injection e'))]⟩⟩
  .rcases A q a with ⟨a,D⟩ |rfl<;>rcases A x c with ⟨c,O⟩ |rfl
   .exact h.apart q a x c m
   .exact J q a D
   .exact fun e=>J x c O e.symm
   .exact absurd rfl m
end
section
open Go.RowKit Go.Lib Classical
instance:Inhabited Arc:=⟨⟨0,0,0,0⟩⟩
theorem yP (l:List Arc)(t:Nat)(h:t<l.length*4):(flat l)[t]?=some ((l.toArray[t/4]!).cells[t%4]!):=by
 induction l generalizing t with
 |nil=>simp at h
 |cons a l c=>
  rw[iO];rcases t with _ |_ |_ |_ |t
  .rfl
  .rfl
  .rfl
  .rfl
  .have h1:(t+1+1+1+1)/4=t/4+1:=by omega
   have b:(t+1+1+1+1)%4=t%4:=by omega
   have:=c t (by simp at h;omega);rw[h1,b];simpa using this
theorem fi (S:List Arc)(m:Nat)(h:m<S.length):S.toArray[m]! =S[m]:=by rw[getElem!_pos _ _ (by simpa using h)];simp
theorem yb {S:List Arc}(x:Arc):x∈compact S↔x∈S:=by
 have key:∀m,m<=S.length->(x∈compactUpTo S.toArray m↔x∈S.take m):=by
  intro m;induction m with
  |zero=>intro _;simp[compactUpTo]
  |succ m b=>
   intro hm;have a:=fi S m (by omega);rw[compactUpTo_succ,mem_append,b (by omega),lA S m (by omega)];by_cases hk:keeps S.toArray m=true
   .rw[if_pos hk,mem_singleton,a]
   .rw[if_neg hk];simp only[keeps,decide_eq_true_eq,not_or,Classical.not_not]at hk;obtain⟨c,h1⟩:=hk;rw[a,fi S (m-1) (by omega)]at h1;constructor
    .rintro(h |h)
     .exact .inl h
     .simp at h
    .rintro(h |h)
     .exact .inl h
     .refine .inl ?_;rw[h,h1];exact mem_take_iff_getElem.2 ⟨m-1,by omega,rfl⟩
 unfold compact;rw[key S.length bW,take_length]
theorem x9 {S:List Arc}(h:S.Pairwise (fun a b=>¬b.lt a)):cR (compact S):=by
 have hp:=pairwise_iff_getElem.1 h;have key:∀m,m<=S.length->cR (compactUpTo S.toArray m)/\∀y∈compactUpTo S.toArray m,∃j,∃d:j<S.length,j<m/\y=S[j]:=by
  intro m;induction m with
  |zero=>intro _;exact⟨by simp[compactUpTo,cR],by simp[compactUpTo]⟩
  |succ m p=>
   intro hm;obtain⟨h1,g⟩:=p (by omega);have k:=fi S m (by omega);rw[compactUpTo_succ];by_cases hk:keeps S.toArray m=true
   .rw[if_pos hk];refine⟨pairwise_append.2 ⟨h1,by simp,fun y c z o=>?_⟩,fun y c=>?_⟩
    .obtain rfl:z=S[m]:=by rw[<-k];simpa using o
     obtain⟨j,d,q,rfl⟩:=g y c;simp only[keeps,decide_eq_true_eq]at hk;have f:S.toArray[m]!≠S.toArray[m-1]!:=hk.resolve_left (by omega);rw[k,fi S (m-1) (by omega)]at f;have i:=hp (m-1) m (by omega) (by omega) (by omega);have e:(S[m-1]'(by omega)).lt S[m]:=by
      by_cases l:(S[m-1]'(by omega)).lt S[m]
      .exact l
      .exact absurd (Arc.aD i l) f
     rcases Nat.lt_or_ge j (m-1)with n |n
     .have r:=hp j (m-1) d (by omega) n;unfold Arc.lt at *;omega
     .obtain rfl:j=m-1:=by omega
      exact e
    .rcases mem_append.1 c with c |c
     .obtain⟨j,d,i,e⟩:=g y c;exact⟨j,d,by omega,e⟩
     .obtain rfl:y=S[m]:=by rw[<-k];simpa using c
      exact⟨m,by omega,by omega,rfl⟩
   .rw[if_neg hk,append_nil];exact⟨h1,fun y c=>by obtain⟨j,d,i,e⟩:=g y c;exact⟨j,d,by omega,e⟩⟩
 exact(key S.length bW).1
theorem tL (n:Nat):(Builtin.zeroCells #[.int .i64 0,.int .i64 0,.int .i64 0,.int .i64 0] n).toList=flat (replicate n ⟨0,0,0,0⟩):=by
 refine ext_getElem (by simp[Builtin.zeroCells,cT]) (fun i h1 a=>?_);have c:i<n*4:=by simpa [cT]using a
 have:=yP (replicate n ⟨0,0,0,0⟩) i (by simpa using c);rw[getElem?_eq_getElem a]at this;injection this with this;have b:i/4<n:=by omega
 have d:(replicate n (⟨0,0,0,0⟩:Arc)).toArray[i/4]! =⟨0,0,0,0⟩:=by rw[getElem!_pos _ _ (by simpa using b)];simp
 rw[this,d];rcases (show i%4=0\/i%4=1\/i%4=2\/i%4=3 by omega)with e |e |e |e<;>simp[Builtin.zeroCells,e,Arc.cells]
theorem tE (w:World)(ty:TypeId)(b o n c:Nat)
  (g:∀j,j<n*4->(w.cell? ⟨b,o+j,none⟩).isSome=true)(i:∀j,j<n*4->w.frozen? ⟨b,o+j,none⟩=false):
  (Builtin.clear_ #[96] ty #[.slice (some ⟨b,o,none⟩) n c]).run prog w= .ok (.tuple #[]) (w.setCells b o (flat (replicate n ⟨0,0,0,0⟩))):=by
 have k:∀w,(zeroValue 171).run prog w= .ok (.agg #[.int .i64 0,.int .i64 0,.int .i64 0,.int .i64 0]) w:=fun w=>by kernel_rfl
 have d:=run_storeCells_cells (P:=prog) b o (flat (replicate n ⟨0,0,0,0⟩)) 0 w (by simpa [cT]using g) (by simpa [cT]using i) (by
  intro v e;unfold flat at e;obtain⟨a,_,f⟩:=mem_flatMap.1 e;simp[Arc.cells]at f;rcases f with rfl |rfl |rfl |rfl<;>rfl)
 simp only[Nat.add_zero]at d;cases n with
 |zero=>simp[Builtin.clear_,run_underlying underlying96,flat,World.setCells]
 |succ m=>simp[Builtin.clear_,run_underlying underlying96,k,tL,Value.cells,d]
theorem rK {base g c n:Nat}{L R:List Arc}(h:w.ownsRow base 171 4 (.slice (some ⟨g,0,none⟩) n c) n (flat (L++R))):b8 w w.heap.size (some ⟨g,0,none⟩) (flat L):=fun _=>
 ⟨g,0,rfl,(h.lt g rfl).2,fun i x a=>by
  have b:=(List.getElem?_eq_some_iff.1 a).1;have h1:=h.1;rw[fR,length_append]at h1;rw[Nat.zero_add,h.cellAt _ (by omega),fR,getElem?_append_left b,a]⟩
theorem nF (b:Nat):∀(a:List Value) (o:Nat) (w:World),(w.setCells b o a).heap.size=w.heap.size
 |[],_,_=>rfl
 |v::a,o,w=>by
  show((w.setCell ⟨b,o,none⟩ v).setCells b (o+1) a).heap.size=_;rw[nF b a];simp[setCell]
theorem pj (b:Nat):∀(a:List Value) (o:Nat) (w:World),Chg (·=b) w (w.setCells b o a)
 |[],_,_=>Chg.refl _ _
 |v::a,o,w=>(Chg.setCell (S:=(·=b)) (p:=⟨b,o,none⟩) _ (.inl rfl) _).trans (pj b a (o+1) (w.setCell ⟨b,o,none⟩ v))
set_option maxRecDepth 100000
set_option maxHeartbeats 4000000
theorem vu (S:List Arc)(g c base:Nat)(w:World)(hle:S.length<=1000000000000000)(t:w.ownsRow base 171 4 (.slice (some ⟨g,0,none⟩) S.length c) S.length (flat S)):
  Calls prog 203 #[.slice (some ⟨g,0,none⟩) S.length c] w fun e w'=>e= .returned (.slice (some ⟨g,0,none⟩) (compact S).length c)/\b8 w' w'.heap.size (some ⟨g,0,none⟩) (flat (compact S))/\Chg (·=g) w w':=by
 have ak:S.length<=c:=by
  rcases t.2 with ⟨e,_⟩ |⟨g',cap,cur,e,_,_,hn,_⟩
  .cases e
  .injection e with _ _ e;subst e;exact hn
 have v:=bP t;have same:(∀j,j<S.length->keeps S.toArray j=true)->compact S=S:=compact_all S;have V:=bP same;clear t same;by_cases h2:S.length<2
 .go_enter func203,ntmps203;go_wp2;go_ret;have e:=V.out (fun j u=>keeps_lt_one _ j (by omega));rw[e];exact⟨rfl,rK (R:=[]) (by rw[append_nil];exact v.out),Chg.refl _ _⟩
 .go_enter func203,ntmps203;go_wp2_with fail;go_loopw [3] (fun E wr=>∃k:Nat,1<=k/\k<=S.length/\E= .int .i64 k/\wr.ownsRow base 171 4 (.slice (some ⟨g,0,none⟩) S.length c) S.length (flat S)/\Below w.heap.size w wr/\∀j,j<k->keeps S.toArray j=true) (fun E _=>S.length-(intOf E).toNat);case atStart=>exact⟨1,bW,by omega,rfl,v.out,bX,keeps_lt_one _⟩
  case round=>
   obtain⟨k,au,hk,rfl,J,F,o⟩:=hrel;have n:=bS J F o;clear J F o;obtain⟨p,rfl⟩:∃p,k=p+1:=⟨k-1,by omega⟩;by_cases B:p+1<S.length
   .obtain⟨y0,y1,y2,y3⟩:=eZ n.out.1 p _ (getElem?_eq_getElem (by omega));obtain⟨z0,T,z2,z3⟩:=eZ n.out.1 (p+1) _ (getElem?_eq_getElem B);have P:=tv S[p+ 1] S[p];have z:=pJ;have D:IntKind.i64.wrap (p:Int)=p:=IntWalk.i64_in _ (by omega);go_wp2_with fail;go_quiet (fail);clear D y0 y1 y2 y3 z0 T z2 z3 P z;by_cases l:S[p+ 1]=S[p]
    .have d1:decide (S[p+ 1]=S[p])=true:=decide_eq_true l;rw[d1];have N:=bP l;clear l d1;go_wp2_with fail;go_loopw [3,5] (fun E Q wx=>∃(a k2:Nat) (f:Array Arc),E= .int .i64 a/\Q= .int .i64 k2/\1<=k2/\p+1+k2<=S.length/\wx.ownsRow base 171 4 (.slice (some ⟨g,0,none⟩) S.length c) S.length (flat f.toList)/\Chg (·=g) w wx/\CompInv S.toArray (p+1+k2) a f) (fun _ Q _=>S.length-(intOf Q).toNat);case atStart=>exact⟨p+1,1,S.toArray,rfl,rfl,bW,by omega,n.out.1,(Chg.ai _ n.out.2.1).trans (Chg.drewN _ _ _),CompInv.start n.out.2.2 (keeps_neg (by omega) (by rw[fi S _ B,Nat.add_sub_cancel,fi S p (by omega)];exact N.out))⟩
     case round=>
      obtain⟨a,k2,f,rfl,rfl,h1,al,M,G,s⟩:=hrel;have aw:=s.lt;have ar:f.size=S.length:=by rw[s.size];simp
      have d:=bS M G s;clear M G s;by_cases r:p+1+k2<S.length
      .have I:f.toList[p+1+k2]?=some S[p+1+k2]:=by
        have:=d.out.2.2.high (p+1+k2) (by omega);rw[fi S _ r,getElem!_pos f _ (by omega)]at this;rw[Array.getElem?_toList,Array.getElem?_eq_getElem (by omega),this]
       have H:f.toList[p+k2]?=some S[p+k2]:=by
        have:=d.out.2.2.high (p+k2) (by omega);rw[fi S _ (by omega),getElem!_pos f _ (by omega)]at this;rw[Array.getElem?_toList,Array.getElem?_eq_getElem (by omega),this]
       obtain⟨y0,y1,y2,y3⟩:=eZ d.out.1 (p+k2) _ H;obtain⟨z0,T,z2,z3⟩:=eZ d.out.1 (p+1+k2) _ I;have P:=Ea S[p+1+k2] S[p+k2];have z:=pJ;clear H I;obtain⟨m,rfl⟩:∃m,k2=m+1:=⟨k2-1,by omega⟩;rw[show(p+(m+1))*4=(p+1)*4+m*4 from by omega]at y0 y1 y2 y3;rw[show(p+1+(m+1))*4=(p+1)*4+(m+1)*4 from by omega]at z0 T z2 z3;have D:IntKind.i64.wrap (m:Int)=m:=IntWalk.i64_in _ (by omega);go_wp2_with fail;go_quiet (fail);clear D P z;by_cases q:S[p+1+(m+1)]=S[p+(m+1)]
       .have d1:(!decide (S[p+1+(m+1)]=S[p+(m+1)]))=false:=by rw[decide_eq_true q];rfl
        rw[d1];have O:=bP q;clear q d1;go_wp2_with fail;refine⟨⟨a,m+2,f,rfl,by go_num,by omega,by omega,d.out.1,d.out.2.1.trans (Chg.drewN _ _ _),?_⟩,by simp[intOf];omega⟩;exact d.out.2.2.skip (keeps_neg (by omega) (by rw[show p+1+(m+1) -1=p+(m+1)from by omega,fi S _ r,fi S _ (by omega)];exact O.out))
       .have d1:(!decide (S[p+1+(m+1)]=S[p+(m+1)]))=true:=by rw[decide_eq_false q];rfl
        rw[d1];have O:=bP q;clear q d1;obtain⟨x0,x1,x2,x3⟩:=eZ d.out.1 a (f[a]'(by omega)) (by rw[Array.getElem?_toList,Array.getElem?_eq_getElem]);have f0:=d.out.1.frozenAt (a*4);have f1:=d.out.1.frozenAt (a*4+1);have f2:=d.out.1.frozenAt (a*4+2);have f3:=d.out.1.frozenAt (a*4+3);go_wp2_with fail;refine⟨⟨a+1,m+2,f.setIfInBounds a S[p+1+(m+1)],by go_num,by go_num,by omega,by omega,?_,?_,?_⟩,by simp[intOf];omega⟩
        .have:=mX d.out.1 a S[p+1+(m+1)] (by rw[Array.length_toList];omega);rw[Array.toList_setIfInBounds];exact this
        .exact(d.out.2.1.trans (Chg.drewN _ _ _)).trans ((((Chg.setCell (S:=(·=g)) (p:=⟨g,a*4,none⟩) _ (.inl rfl) _).trans (Chg.setCell (S:=(·=g)) (p:=⟨g,a*4+1,none⟩) _ (.inl rfl) _)).trans (Chg.setCell (S:=(·=g)) (p:=⟨g,a*4+2,none⟩) _ (.inl rfl) _)).trans (Chg.setCell (S:=(·=g)) (p:=⟨g,a*4+3,none⟩) _ (.inl rfl) _))
        .have:=d.out.2.2.keep (by simp;omega) (keeps_pos (by rw[show p+1+(m+1) -1=p+(m+1)from by omega,fi S _ r,fi S _ (by omega)];exact O.out));rw[fi S _ r]at this;exact this
      .have y:p+1+k2=S.length:=by omega
       have aq:∀ty,(Builtin.clear_ #[96] ty #[.slice (some ⟨g,a*4,none⟩) (S.length-a) (c-a)]).run prog wr= .ok (.tuple #[]) (wr.setCells g (a*4) (flat (replicate (S.length-a) ⟨0,0,0,0⟩))):=fun ty=>tE wr ty g (a*4) _ _ (fun j u=>by
        rw[d.out.1.cellAt _ (by omega),getElem?_eq_getElem (by rw[cT,Array.length_toList];omega)];rfl) (fun j u=>d.out.1.frozenAt _)
       have U:=bP y;clear y;go_wp2_with fail;go_ret;have s:=d.out.2.2;rw[U.out]at s;have A:(compact S).length=a:=by unfold compact;simpa using s.len
       have C:f.toList=compact S++f.toList.drop a:=by
        conv=>lhs;rw[<-take_append_drop a f.toList]
        congr 1;refine mW (by rw[length_take,Array.length_toList,A];omega) (fun j u=>?_);rw[length_take,Array.length_toList]at u;have h3:=s.low j (by omega);have h4:(compact S)[j]?=some f[j]!:=by unfold compact;simpa using h3
        rw[h4,getElem?_take,if_pos (by omega),Array.getElem?_toList,Array.getElem?_eq_getElem (by omega),getElem!_pos f j (by omega)]
       have Z:=rK (w:=wr) (L:=compact S) (R:=f.toList.drop a) (by rw[<-C];exact d.out.1);rw[A];refine⟨rfl,fun h0=>?_,d.out.2.1.trans (pj _ _ _ _)⟩;obtain⟨b,off,e,hb,hx⟩:=Z h0;injection e with e;injection e with e1 e2;subst e1 e2;refine⟨g,0,rfl,by rw[nF];exact hb,fun i x X=>?_⟩;have Y:=(List.getElem?_eq_some_iff.1 X).1;rw[cT,A]at Y;rw[cell?_setCells_out g _ _ _ _ (fun _ _=> .inl (by show 0+i<a*4;omega))];exact hx i x X
    .have d1:decide (S[p+ 1]=S[p])=false:=decide_eq_false l;rw[d1];have N:=bP l;clear l d1;go_wp2_with fail;refine⟨⟨p+2,by omega,by omega,by go_num,n.out.1,n.out.2.1.trans (Go.below_drewN bX _),fun j u=>?_⟩,by simp[intOf];omega⟩;by_cases e:j=p+1
     .subst e;exact keeps_pos (by rw[fi S _ B,Nat.add_sub_cancel,fi S p (by omega)];exact N.out)
     .exact n.out.2.2 j (by omega)
   .have o:=n.out.2.2;have e:p+1=S.length:=by omega
    have U:=bP e;have HC:=bP (V.out (fun j u=>o j (by omega)));clear o e;go_wp2;go_ret;rw[HC.out];exact⟨rfl,rK (R:=[]) (by rw[append_nil];exact n.out.1),Chg.ai _ n.out.2.1⟩
end
section
open Go.RowKit Go.Shelf Go.Lib Go.Sort Classical
def lx (a b:Arc):Int:=orI [compareInt a.frm b.frm,compareInt a.inp b.inp,compareInt a.out b.out,compareInt a.to b.to]
theorem lG (x y:Int):(x<y/\compareInt x y= -1)\/(x=y/\compareInt x y=0)\/(y<x/\compareInt x y=1):=by
 unfold compareInt;by_cases h1:x<y
 .simp[h1]
 .by_cases a:y<x
  .simp[h1,a]
  .right;left;simp[h1,a];omega
theorem yK (a b:Arc):lx a b<0↔a.lt b:=by
 unfold lx Arc.lt orI orI orI orI orI;rcases lG a.frm b.frm with ⟨h1,c⟩ |⟨h1,c⟩ |⟨h1,c⟩<;>rw[c]
 .simp;omega
 .rcases lG a.inp b.inp with ⟨g,d⟩ |⟨g,d⟩ |⟨g,d⟩<;>rw[d]
  .simp;omega
  .rcases lG a.out b.out with ⟨i,e⟩ |⟨i,e⟩ |⟨i,e⟩<;>rw[e]
   .simp;omega
   .rcases lG a.to b.to with ⟨j,f⟩ |⟨j,f⟩ |⟨j,f⟩<;>rw[f]<;>simp<;>omega
   .simp;omega
  .simp;omega
 .simp;omega
section
variable {α : Type}
theorem tY [Inhabited α](f:α->Arc)(l:List α):flatK (fun x=>(f x).cells) 4 l.toArray=(flat (l.map f)).toArray:=by
 refine ext_get! (by simp[cT]) (fun t e=>?_);have a:t<l.length*4:=by simpa using e
 rw[get_flatK _ _ _ t (by simpa using a)];have:=yP (l.map f) t (by simpa using a);rw[getElem!_pos (flat (l.map f)).toArray t (by simp[cT];exact a)];obtain⟨h1,b⟩:=List.getElem?_eq_some_iff.1 this;have c:t/4<l.length:=by omega
 have d:(l.map f).toArray[t/4]! =f (l.toArray[t/4]!):=by
  rw[getElem!_pos _ _ (by simpa using c),getElem!_pos _ _ (by simpa using c)];simp
 rw[d]at b;simpa using b.symm
theorem y9 (f:α->Arc)(cmp:α->α->Int)(a:∀x y,cmp x y<0↔(f x).lt (f y)):SWO (ltOf cmp) where
 irrefl x:=by unfold ltOf;rw[decide_eq_false_iff_not,a];exact Arc.lt_irrefl _
 trans x y z h1 b:=by
  unfold ltOf at *;rw[decide_eq_true_iff,a]at *;exact Arc.lt_trans h1 b
 ntrans x y z h1 b:=by
  unfold ltOf at *;rw[decide_eq_false_iff_not,a]at *;unfold Arc.lt at *;omega
theorem Ep (f:α->Arc)(cmp:α->α->Int)(c:∀x y,cmp x y<0↔(f x).lt (f y))(a:∀x y,f x=f y->x=y)(x y:α)(h1:ltOf cmp x y=false)(b:ltOf cmp y x=false):x=y:=by
 unfold ltOf at *;rw[decide_eq_false_iff_not,c]at h1 b;exact a _ _ (Arc.aD h1 b)
theorem sW [Inhabited α](f:α->Arc)(cmp:α->α->Int)(m:∀x y,cmp x y<0↔(f x).lt (f y))(A:∀x y,f x=f y->x=y)(fn:FuncId)(J:∀args w,(callFunc fn args).run prog w= .ok (.enter fn args) w)(u:∀(blk off size:Nat) (w:World),CmpLays prog fn #[] (fun x=>(f x).cells) 4 cmp blk off size w)
  (l:List α)(g c base:Nat)(w:World)(hle:l.length<=1000000000000000)(r:w.ownsRow base 171 4 (.slice (some ⟨g,0,none⟩) l.length c) l.length (flat (l.map f))):
  Calls prog 152 #[.slice (some ⟨g,0,none⟩) l.length c,.func (.func fn) #[] #[]] w fun e w'=>
   e= .returned (.tuple #[])/\∃S:List α,S.length=l.length/\S.Perm l/\(S.map f).Pairwise (fun a b=>¬b.lt a)/\w'.ownsRow base 171 4 (.slice (some ⟨g,0,none⟩) l.length c) l.length (flat (S.map f))/\Chg (·=g) w w':=by
 have s:=r;obtain⟨T,h1⟩:=r;rcases h1 with ⟨e,_⟩ |⟨g',cap,cur,e,N,z,P,hm,G,R⟩
 .cases e
 .injection e with d _ I;injection d with d;injection d with d;subst d;subst I;have q:=(s.lt g rfl).2;have hH:HoldsK (fun x=>(f x).cells) 4 w g 0 l.toArray:=by
   unfold HoldsK;rw[tY];intro j i;have D:j<l.length*4:=by simpa [cT]using i
   refine⟨?_,by simp[frozen?,z]⟩;have d:(cur.toList.take (l.length*4))[j]?=(flat (l.map f))[j]?:=by rw[R]
   rw[getElem?_take,if_pos D,Array.getElem?_toList]at d;simp only[cell?,z,Nat.zero_add];simp only[Option.isSome_none,Bool.false_eq_true,if_false];rw[d,getElem?_eq_getElem (by simpa using i)];rw[getElem!_pos (flat (l.map f)).toArray j i];simp
  have Q:=AnyQ.slices_SortFunc_total sortArc 4 isAgg171 sizeOf171 (fun x=>(f x).cells) (fun _=>rfl) (fun x v H=>by simp[Arc.cells]at H;rcases H with rfl |rfl |rfl |rfl<;>rfl) cmp (y9 f cmp m)
   fn #[] g 0 c l.toArray w J (u g 0 _ w) hH q (by simp;omega) (Ep f cmp m A)
  refine Calls.mono (show Calls prog 152 _ _ _ from Q) ?_;rintro e w' ⟨rfl,n,os,hw⟩;obtain⟨S,t⟩:∃S,S=l.mergeSort fun x y=>!(ltOf cmp) y x:=⟨_,rfl⟩;have hp:S.Perm l:=by rw[t];exact mergeSort_perm _ _
  have o:S.length=l.length:=hp.length_eq;rw[<-t]at hw;unfold sortWorldK putRowK at hw;rw[tY]at hw;have O:=y9 f cmp m;refine⟨rfl,S,o,hp,?_,?_,?_⟩
  .have h1:S.Pairwise fun a b=>!(ltOf cmp) b a:=by
    rw[t];refine pairwise_mergeSort (fun a b c h1 M=>?_) (fun a b=>?_) l
    .simp only[Bool.not_eq_true']at *;exact O.ntrans c b a M h1
    .cases h:ltOf cmp b a with
     |false=>rfl
     |true=>
      cases L:ltOf cmp a b with
      |false=>rfl
      |true=>
       have:=O.trans _ _ _ h L;rw[O.irrefl]at this;cases this
   rw[pairwise_map];refine h1.imp (fun {a b} C=>?_);have B:ltOf cmp b a=false:=by simpa using C
   unfold ltOf at B;rwa [decide_eq_false_iff_not,m]at B
  .subst hw;refine⟨by rw[cT,length_map,o],.inr ⟨g,c,putCells id 0 (flat (S.map f)).toArray cur,rfl,N,?_,P,hm,by simpa [putCells]using G,?_⟩⟩
   .simp only[grow];rw[Array.getElem?_append_left (by simp[putRow,mapBlock,Sort.ahead];exact q)];simp[putRow,mapBlock,Sort.ahead,Array.getElem?_modify,z,onCells]
   .apply ext_getElem?;intro j;rw[getElem?_take,Array.getElem?_toList];by_cases i:j<l.length*4
    .have E:j<cur.size:=by rw[G];omega
     have p:j<(flat (S.map f)).length:=by rw[cT,length_map,o];exact i
     simp only[if_pos i,putCells,Array.getElem?_mapIdx,Array.getElem?_eq_getElem E,Option.map_some];rw[if_pos (by simp;exact p),getElem?_eq_getElem p];simp[getElem!_pos,p]
    .rw[if_neg i,getElem?_eq_none (by rw[cT,length_map,o];omega)]
  .subst hw;refine⟨rfl,rfl,rfl,by simp[grow,putRow,mapBlock,Sort.ahead],fun k hk F=>?_⟩;simp only[grow];rw[Array.getElem?_append_left (by simp[putRow,mapBlock,Sort.ahead];exact hk)];simp[putRow,mapBlock,Sort.ahead,Array.getElem?_modify,show g≠k from fun e=>F e.symm]
end
theorem uZ {S:List Arc}(h:S.Pairwise (fun a b=>¬b.lt a))(e:S.Nodup):cR S:=by
 refine(h.and e).imp (fun {a b} ⟨h1,d⟩=>?_);by_cases c:a.lt b
 .exact c
 .exact absurd (Arc.aD c h1) d
abbrev CB:={a:Arc//Small a}
instance:Inhabited CB:=⟨⟨⟨0,0,0,0⟩,by simp[Small]⟩⟩
end
section
open Go.RowKit Classical
set_option maxRecDepth 100000
set_option maxHeartbeats 4000000
theorem sH (a:Nat)(c:Nat)(b:c<=1000000)(w:World)(h:Blk w a #[.int .i64 (c:Int)] 205):
  Calls prog 149 #[.pointer (some ⟨a,0,none⟩)] w fun e w'=>e= .returned (.int .i64 (c:Int))/\w'=w.setCell ⟨a,0,none⟩ (.int .i64 ((c+1:Nat):Int)):=by
 have c0:=h.cell 0;have f0:=h.frozen 0;simp only[getElem?_toArray,getElem?_cons_zero]at c0;go_enter func149,ntmps149;go_wp2;go_ret;refine⟨dL (by omega),?_⟩;rw[show((c+1:Nat):Int)=(c:Int)+1 from by omega]
theorem tp (s:ByteArray)(i:Nat)(w:World)(_hs:s.size<=maxLen):
  Calls prog 205 #[.string s,.int .i64 i] w fun e w'=>e= .returned (.int .i64 (dv (bl s) i))/\w'=w:=by
 unfold maxLen at _hs;go_enter func205,ntmps205;by_cases h:i<s.size
 .have a:=bP (dU s i h);go_wp2;go_ret;refine⟨dL ?_,rfl⟩;rw[dv,a.out];simp[uP]
 .have a:(bl s)[i]?=none:=getElem?_eq_none (by rw[b9];omega);have b:=bP a;clear a;go_wp2;go_ret;exact⟨dL (by rw[dv,b.out]),rfl⟩
def qY (w:World)(d:Nat)(A:cr)(c e:Option Addr)(lc f b:Nat)(lv av:Value)(a:Nat):Prop:=
 Blk w d #[.string A.name,.slice c A.letters.length lc,.slice e A.small.length f,.func (.func 149) #[.pointer (some ⟨b,0,none⟩)] #[],lv,av,.map (some a)] 211
theorem tn (j c:Nat)(cs:Array Value)(s:cs[6]?=some (.map (some c)))(x:Arc)(ks:List Value)(w:World)(hm:Blk w j cs 211)(u:cy w c ev ks):
  Calls prog 204 #[.pointer (some ⟨j,0,none⟩),.agg #[.int .i64 x.frm,.int .i64 x.inp,.int .i64 x.out,.int .i64 x.to]] w fun e w'=>e= .returned (.tuple #[])/\cy w' c ev (jQ ks (dT x))/\Chg (·=c) w w':=by
 have q:w.cell? ⟨j,6,none⟩=some (.map (some c)):=(hm.cell 6).trans s;have o:=hm.lt;obtain⟨a,b⟩:∃a:World,a=w.alloc (.cells #[.int .i64 x.frm,.int .i64 x.inp,.int .i64 x.out,.int .i64 x.to] 171):=⟨_,rfl⟩;have l:cy a c ev ks:=by rw[b];exact ch.alloc u _
 have f:Chg (·=c) w a:=by rw[b];exact Chg.alloc _ _ _
 obtain⟨z,m,i,g,p⟩:=cy.put (w:=a.drew) l EH underlying208 (key:=dT x) ⟨x,rfl⟩;unfold dT at m;have y:a.cell? ⟨j,6,none⟩=some (.map (some c)):=by rw[b];exact(cell?_alloc_lt _ _ _ o).trans q
 have d:Blk a w.heap.size #[.int .i64 x.frm,.int .i64 x.inp,.int .i64 x.out,.int .i64 x.to] 171:=by rw[b];exact Blk.new _ _ _
 have x0:a.cell? ⟨w.heap.size,0,none⟩=some (.int .i64 x.frm):=d.cell 0;have x1:a.cell? ⟨w.heap.size,1,none⟩=some (.int .i64 x.inp):=d.cell 1;have A:a.cell? ⟨w.heap.size,2,none⟩=some (.int .i64 x.out):=d.cell 2;have x3:a.cell? ⟨w.heap.size,3,none⟩=some (.int .i64 x.to):=d.cell 3;have k:=bP b;clear b;go_enter func204,ntmps204;go_wp2_with fail;rw[<-k.out];have n:=bS i g f;clear l i g f p k d;refine wp_region_still_tail 5 (by kernel_rfl) (by kernel_rfl) ?_;simp only[take_succ_cons,take_zero,drop_succ_cons,drop_zero];repeat still_step
 refine wpStill_nil ?_;change wpList _ _ _ _ _ a.drew;go_wp2_with fail;refine bodyPost_end (v:= .tuple #[]) (by simp[results,results204,go_sem]) rfl ?_;obtain⟨i,g,f⟩:=n.out;refine⟨rfl,i,(f.trans (Chg.drewN _ a 1)).trans (Chg.ax g (fun r t=>by cases t;exact .inl rfl))⟩
def iA (x:Int):Value:= .int .i64 x
theorem Db {ks:List Int}{x:Int}(h:cy w b jO (jQ (ks.map iA) (iA x))):cy w b jO ((if x∈ks then ks else ks++[x]).map iA):=by
 have hm:iA x∈ks.map iA↔x∈ks:=by
  rw[mem_map];exact⟨fun⟨y,c,e⟩=>(show y=x by simpa [iA]using e)▸c,fun h=>⟨x,h,rfl⟩⟩
 unfold jQ at h;by_cases a:x∈ks
 .rw[if_pos (hm.2 a)]at h;rw[if_pos a];exact h
 .rw[if_neg (fun h=>a (hm.1 h))]at h;rw[if_neg a,map_append];exact h
def xR (L:List (List UInt8))(t:List UInt8)(w:World)(e:Ending)(w':World):Prop:=
 ∃(b:Nat) (ks:List Int),e= .returned (.tuple #[.map (some b),.int .i64 (fQ L t)])/\w.heap.size<=b/\cy w' b jO (ks.map iA)/\(∀x:Int,x∈ks↔x∈(cB L t).letters)/\Below w.heap.size w w'
theorem qJ (A:cr)(hv:cG A)(s:ByteArray)(hs:s.size<=maxLen)(u:Nat)(la sa:Option Addr)(lc sc:Nat)(cs:Array Value)(w:World)(hm:Blk w u cs 211)(m:cs[0]?=some (.string A.name))(h1:cs[1]?=some (.slice la A.letters.length lc))(h2:cs[2]?=some (.slice sa A.small.length sc))
  (hA:cH w w.heap.size (.agg #[.string A.name,.slice la A.letters.length lc,.slice sa A.small.length sc]) A):
  Calls prog 150 #[.pointer (some ⟨u,0,none⟩),.string s] w (xR A.bls (bl s) w):=by
 have a0:w.cell? ⟨u,0,none⟩=_:=(hm.cell 0).trans m;have a1:w.cell? ⟨u,1,none⟩=_:=(hm.cell 1).trans h1;have a2:w.cell? ⟨u,2,none⟩=_:=(hm.cell 2).trans h2;have Z:= @run_makeMap prog;have N:dG A s=cB A.bls (bl s):=by rw[dG,if_pos hv]
 have z:=lW A _ s hs w hA;rw[N]at z;have hle:=xy A.bls (bl s);obtain⟨R,y⟩:∃R,cB A.bls (bl s)=R:=⟨_,rfl⟩;have H:fQ A.bls (bl s)=R.letters[0]?.getD (-1):=by rw[fQ,y]
 rw[y]at z hle;have HR:=bP y;have B:=bP H;clear y N H;go_enter func150,ntmps150;go_wp2_with fail;refine z.mono ?_;rintro e b ⟨v,rfl,t,l⟩;obtain⟨a,c,rfl,Y,M⟩:=b8.ah t;clear z a0 a1 a2 t Y;have E:cy (b.alloc (.map #[] 0)) b.heap.size jO (([]:List Int).map iA):=cy.made b jO;have D:Below b.heap.size b (b.alloc (.map #[] 0)):=bX.alloc bW _;have f:=bQ E M;clear E M;go_wp2_with fail;obtain⟨V,G⟩:∃V:World,V=b.alloc (.map #[] 0):=⟨_,rfl⟩;rw[<-G]at D⊢;clear Z;go_loopw [25] (fun i wr=>∃(k:Nat) (ks:List Int),k<=R.letters.length/\i= .int .i64 k/\cy wr b.heap.size jO (ks.map iA)/\(∀x:Int,x∈ks↔x∈R.letters.take k)/\Below b.heap.size b wr) (fun i _=>R.letters.length-(intOf i).toNat);case atStart=>exact⟨0,[],zero_le _,rfl,by rw[G];exact f.out.1,by simp,D⟩
 case round=>
  obtain⟨k,ks,hk,rfl,X,L,d⟩:=hrel;have P:=bP X;have C:=bP L;clear X L;by_cases J:k<R.letters.length
  .obtain⟨g,o,rfl,S,r⟩:=(f.out.2).nums (by omega);have c0:=(d.cell (p:=⟨g,o+k,none⟩) S).trans (r k J);obtain⟨w4,T,F,I,aa⟩:=cy.put P.out Br underlying212 (key:=iA R.letters[k]) (DH _);have U:=bP (Db F);have Q:=d.grown I d.size (fun j hj=>by cases hj;exact bW);unfold iA at T;clear r F I aa;go_wp2_with fail;refine⟨⟨k+1,_,by omega,by go_num,U.out,fun x=>?_,Q⟩,by simp[intOf];omega⟩;rw[take_succ_eq_append_getElem J,mem_append,<-C.out];split
   .rename_i h;exact⟨.inl,fun h'=>h'.elim id (fun e=>by simp at e;subst e;exact h)⟩
   .rw[mem_append]
  .obtain rfl:k=R.letters.length:=by omega
   have n:=bP (show∀x:Int,x∈ks↔x∈(cB A.bls (bl s)).letters from fun x=>by rw[C.out,take_length,HR.out]);have O:=l.trans (d.mono l.size);by_cases m:R.letters.length=0
   .have d0:((R.letters.length:Int)==0)=true:=by simp[m]
    have H0:=bP m;clear m;go_wp2_with fail;go_ret2;refine⟨b.heap.size,ks,?_,l.size,P.out,n.out,O⟩;rw[B.out,getElem?_eq_none (by have:=H0.out;omega)];try rfl
   .have d0:((R.letters.length:Int)==0)=false:=by rw[beq_eq_false_iff_ne];omega
    have q:0<R.letters.length:=by omega
    obtain⟨g,o,rfl,S,r⟩:=(f.out.2).nums q;have c0:wr.cell? ⟨g,o,none⟩=some (.int .i64 R.letters[0]):=(d.cell (p:=⟨g,o,none⟩) S).trans (r 0 q);clear m r;go_wp2_with fail;go_quiet (fail);go_wp2;go_ret2;refine⟨b.heap.size,ks,?_,l.size,P.out,n.out,below_drewN' O _⟩;rw[B.out,getElem?_eq_getElem q];try rfl
theorem C6 (a b:Arc)(w:World):
  Calls prog 153 #[.agg #[.int .i64 a.frm,.int .i64 a.inp,.int .i64 a.out,.int .i64 a.to],.agg #[.int .i64 b.frm,.int .i64 b.inp,.int .i64 b.out,.int .i64 b.to]] w
   fun e w'=>e= .returned (.int .i64 (lx a b))/\∃C D E,w'=(((w.alloc C).alloc D).drewN 1).alloc E:=by
 obtain⟨c,d⟩:∃c:World,c=(w.alloc (.cells #[.int .i64 a.frm,.int .i64 a.inp,.int .i64 a.out,.int .i64 a.to] 171)).alloc (.cells #[.int .i64 b.frm,.int .i64 b.inp,.int .i64 b.out,.int .i64 b.to] 171):=⟨_,rfl⟩;have f:Blk c w.heap.size #[.int .i64 a.frm,.int .i64 a.inp,.int .i64 a.out,.int .i64 a.to] 171:=by rw[d];exact(Blk.new _ _ _).alloc _
 have g:Blk c (w.heap.size+1) #[.int .i64 b.frm,.int .i64 b.inp,.int .i64 b.out,.int .i64 b.to] 171:=by
  rw[d];have:=Blk.new (w.alloc (.cells #[.int .i64 a.frm,.int .i64 a.inp,.int .i64 a.out,.int .i64 a.to] 171)) #[.int .i64 b.frm,.int .i64 b.inp,.int .i64 b.out,.int .i64 b.to] 171;simpa using this
 have a0:=f.cell 0;have q:=f.cell 1;have a2:=f.cell 2;have a3:=f.cell 3;have r:=g.cell 0;have s:=g.cell 1;have t:=g.cell 2;have u:=g.cell 3;simp only[getElem?_toArray,getElem?_cons_zero,getElem?_cons_succ]at a0 q a2 a3 r s t u;have k:=bP d;clear d f g;go_enter func153,ntmps153;go_wp2_with fail;rw[<-k.out];refine wp_region_still_tail 20 (by kernel_rfl) (by kernel_rfl) ?_;simp only[take_succ_cons,take_zero,drop_succ_cons,drop_zero];repeat (first |still_step |still_call (cmp_Compare_int _ _ _))
 refine wpStill_nil ?_;change wpList _ _ _ _ _ c.drew;obtain⟨c1,h1⟩:∃z,compareInt a.frm b.frm=z:=⟨_,rfl⟩;obtain⟨c2,m⟩:∃z,compareInt a.inp b.inp=z:=⟨_,rfl⟩;obtain⟨c3,n⟩:∃z,compareInt a.out b.out=z:=⟨_,rfl⟩;obtain⟨c4,o⟩:∃z,compareInt a.to b.to=z:=⟨_,rfl⟩;rw[h1,m,n,o];have A:=bP (show lx a b=orI [c1,c2,c3,c4]from by rw[lx,h1,m,n,o]);clear h1 m n o a0 q a2 a3 r s t u;have j:b8 (c.drew.alloc (.cells (nums [c1,c2,c3,c4]).toArray 3)) (c.drew.heap.size+1) (some ⟨c.drew.heap.size,0,none⟩) (nums [c1,c2,c3,c4]):=fun _=>
  ⟨_,0,rfl,by omega,fun i x B=>by rw[Nat.zero_add];exact Box.new c.drew (nums [c1,c2,c3,c4]) 3 i x B⟩
 have v:=rV [c1,c2,c3,c4] _ 4 _ (by simp[maxLen]) _ j;have y:=bP v;clear v j;go_wp2_with fail;refine y.out.mono ?_;rintro e F ⟨rfl,l⟩;have p:=bP l;clear l;go_wp2_with fail;go_ret;exact⟨dL A.out.symm,_,_,_,by rw[p.out,k.out];rfl⟩
end
end Go.Proofs.YtmhdgddjeadjjaaGreatDoor
