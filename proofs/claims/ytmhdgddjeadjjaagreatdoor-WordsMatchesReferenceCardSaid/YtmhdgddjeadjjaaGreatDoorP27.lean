/- A part of the proof: what the claim reaches. -/
import Derived.Test.YtmhdgddjeadjjaaGreatDoorP24
import Derived.Test.YtmhdgddjeadjjaaGreatDoorP26
namespace Go.Proofs.YtmhdgddjeadjjaaGreatDoor
open _root_.List Go.Lib _root_.Nat Go.World _root_.Int Go.Proofs.Tryz
variable {a:Arc}{s:ByteArray}{e:Int}{ls:List (List UInt8)}{lc sc:Nat}{la sa:Option Addr}
section
open Go Classical
def exB:cC:=⟨[eP,dW],[exR]⟩
def enS:ByteArray:=bs [101,110]
def vn:List UInt8:=[67,65,78,32,78,65]
theorem uL:dW.bls=[[65],[78],[67]]:=ju _ _
theorem BB:eP.bls=smalls.map (fun c=>[c]):=ju _ _
theorem pA:cU exB:=by
 refine⟨⟨by decide,by decide,?_,?_⟩,⟨?_,?_⟩,?_⟩
 .intro A a;simp only[exB,mem_cons,not_mem_nil,or_false]at a;rcases a with rfl |rfl
  .exact rE
  .exact oF
 .show([eP.name,dW.name]:List ByteArray).Nodup;have:eP.name≠dW.name:=by decide
  simp[this]
 .intro r c;obtain rfl:=mem_singleton.1 c;exact⟨1,0,dW,eP,⟨rfl,rfl⟩,⟨rfl,rfl⟩,by decide,Fb⟩
 .show([(exR.src,exR.dst)]:List (ByteArray×ByteArray)).Nodup;simp
 .intro i A B d a b;have:i=1:=by
   have:=(List.getElem?_eq_some_iff.1 a).1;simp only[exB,length_cons,length_nil]at this;omega
  subst this;obtain rfl:dW=A:=Option.some.inj a;obtain rfl:eP=B:=Option.some.inj b;exact⟨exR,mem_singleton.2 rfl,rfl,rfl⟩
theorem oG (h1:ls≠[])(a:∀m∈ls,m=[65]\/m=[78]\/m=[67])(c:ls.length<=24):(cB dW.bls ls.flatten).err=0/\jz dW ls.flatten=ls.flatten:=by
 have b:∀m∈ls,m∈dW.bls:=fun m hm=>by
  rw[uL];rcases a m hm with rfl |rfl |rfl<;>simp
 obtain⟨q1,e⟩:=ng (fC oF) h1 b c;refine⟨q1,(rB e).trans ?_⟩;congr 1;refine(map_congr_left (fun m hm=>?_)).trans (map_id _);have d:fm dW m=txt [[65],[78],[67]] (dW.small[([[65],[78],[67]]:List (List UInt8)).idxOf m]?.getD 0):=by
  unfold fm;rw[uL]
 rw[d];rcases a m hm with rfl |rfl |rfl<;>rfl
theorem od (h1:ls≠[])(a:∀m∈ls,∃c∈smalls,m=[c])(b:ls.length<=24):(cB eP.bls ls.flatten).err=0:=by
 refine(ng (fC rE) h1 (fun m hm=>?_) b).1;rw[BB];obtain⟨c,d,rfl⟩:=a m hm;exact mem_map.2 ⟨c,d,rfl⟩
theorem D2:gu exB 1 0 exR:=⟨mem_singleton.2 rfl,dW,eP,⟨rfl,rfl⟩,⟨rfl,rfl⟩⟩
theorem wI {w t:List UInt8}(h1:ls≠[])(q:∀m∈ls,m=[65]\/m=[78]\/m=[67])(u:ls.length<=24)(z:ls.flatten=w)(k:∀ts e,et exM w ts e->e=0/\ts=[bs t])(hw:(cB eP.bls t).err=0)(h:gp exB 1 w s e):e=0/\bl s=t:=by
 obtain⟨q1,o⟩:=oG h1 q u;rw[z]at q1 o;obtain⟨M,p,x,h⟩:=h;have l:M=exM/\p=0:=by
  rcases x with ⟨a,_⟩ |⟨_,i,j,E,F,_,_,hm⟩
  .exact absurd ⟨pA,by decide,by decide,by decide,by decide⟩ a
  .obtain rfl:i=1:=by omega
   obtain rfl:j=0:=by omega
   rcases hm with ⟨_,b,rfl⟩ |⟨a,_⟩
   .obtain⟨A,d,⟨e,_⟩ |⟨_,r,k,y⟩⟩:=b
    .exact absurd e (by decide)
    .obtain rfl:dW=A:=Option.some.inj d;obtain rfl:=mem_singleton.1 k.1;exact⟨Fa y,rfl⟩
   .exact absurd (.inr ⟨exR,D2⟩) a
 obtain⟨rfl,rfl⟩:=l;rcases h with ⟨h,_⟩ |⟨_,A,B,d,v,f,C,hF,h⟩
 .exact absurd rfl h
 obtain rfl:dW=A:=Option.some.inj d;obtain rfl:eP=B:=Option.some.inj v;rcases hF with ⟨_,_,c,rfl⟩ |⟨a,_⟩;case inr=>exact absurd ⟨oF,by rw[cZ];exact q1⟩ a
 rw[cZ,o]at c;rcases h with ⟨h,_⟩ |⟨_,ts,D,n,h⟩
 .exact absurd rfl h
 rw[c]at n;obtain⟨rfl,rfl⟩:=k _ _ n;rcases h with ⟨h,_⟩ |⟨_,hO⟩
 .exact absurd rfl h
 have g:[bs t].filter (fun t=>decide (fq eP t))=[bs t]:=by
  rw[filter_cons_of_pos]
  .rfl
  .rw[decide_eq_true_iff];show(cB eP.bls (bl (bs t))).err=0;rw[cZ];exact hw
 unfold jk at hO;rw[g]at hO;rcases hO with ⟨h,_⟩ |⟨h,rfl⟩ |⟨h,_⟩
 .cases h
 .obtain rfl:bs t=s:=by simpa using h
  exact⟨rfl,cZ _⟩
 .simp at h
theorem oB:(99:UInt8)∈smalls/\(104:UInt8)∈smalls/\(97:UInt8)∈smalls/\(110:UInt8)∈smalls:=by decide
theorem wD (h:gp exB 1 [67,65,78] s e):e=0/\bl s=[99,104,97,110]:=
 wI (ls:=[[67],[65],[78]]) (by simp) (by simp) (by decide) rfl (fun ts e q=>yh q) (od (ls:=[[99],[104],[97],[110]]) (by simp) (by simp[oB]) (by decide)) h
theorem yN (h:gp exB 1 [78,65] s e):e=0/\bl s=[110,97]:=
 wI (ls:=[[78],[65]]) (by simp) (by simp) (by decide) rfl (fun ts e q=>zI q) (od (ls:=[[110],[97]]) (by simp) (by simp[oB]) (by decide)) h
theorem D1:dB exB enS 1 vn:=by
 refine⟨pA,by decide,by decide,by decide,fun A a p hp=>?_⟩;obtain rfl:dW=A:=Option.some.inj a;have:p=[67,65,78]\/p=[78,65]:=by
  have:partsOf vn=[[67,65,78],[78,65]]:=rfl;rw[this]at hp;simpa using hp
 rcases this with rfl |rfl
 .exact(oG (ls:=[[67],[65],[78]]) (by simp) (by simp) (by decide)).1
 .exact(oG (ls:=[[78],[65]]) (by simp) (by simp) (by decide)).1
theorem yg:¬dB exB enS 1 [67,65,78,32,32,78,65]:=fun h=>by
 have:=h.word dW rfl [] (by
  have:partsOf [67,65,78,32,32,78,65]=[[67,65,78],[],[78,65]]:=rfl;rw[this];simp)
 revert this;unfold cB;rw[if_pos rfl];decide
theorem wF:dB exB enS 0 [110,97]:=by
 refine⟨pA,by decide,by decide,by decide,fun A a p hp=>?_⟩;obtain rfl:eP=A:=Option.some.inj a;obtain rfl:p=[110,97]:=by
  have:partsOf [110,97]=[[110,97]]:=rfl;rw[this]at hp;simpa using hp
 exact od (ls:=[[110],[97]]) (by simp) (by simp[oB]) (by decide)
theorem ED {s:List UInt8}(h:fF exB enS 1 vn s e):e=0/\s=[99,104,97,110,32,110,97]:=by
 rcases h with ⟨l,_⟩ |⟨_,outs,m,c,h⟩
 .exact absurd D1 l
 have hw:cA vn=[[67,65,78],[78,65]]:=rfl;rw[hw]at c;rcases c with ⟨rfl,j,b⟩ |⟨he,_,k,w,t,hk,_,a⟩
 .match outs,j with
  |[d,f],_=>
   have h1:=(wD (b 0 _ d rfl rfl)).2;have g:=(yN (b 1 _ f rfl rfl)).2;have i:dO ([d,f].map bl)=[99,104,97,110,32,110,97]:=by
    simp only[map_cons,map_nil,h1,g];rfl
   rw[i]at h;rcases h with ⟨h,_⟩ |⟨_,h,_⟩ |⟨_,_,rfl,rfl⟩
   .exact absurd rfl h
   .simp at h
   .exact⟨rfl,rfl⟩
 .exfalso;match k,hk with
  |0,hk=>
   obtain rfl:[67,65,78]=w:=by simpa using hk
   exact he (wD a).1
  |1,hk=>
   obtain rfl:[78,65]=w:=by simpa using hk
   exact he (yN a).1
  |k+2,hk=>simp at hk
def stS:ByteArray:=bs [115,116]
def nS:ByteArray:=bs [110]
def gU:ByteArray:=bs [115,116,114,101,101,116]
def iV:ByteArray:=bs [115,97,105,110,116]
def noS:ByteArray:=bs [110,111]
def exS:List Sht:=[⟨enS,stS,gU,1⟩,⟨enS,stS,iV,2⟩,⟨enS,nS,noS,3⟩]
def exW:List (List ByteArray×Int):=[([stS,nS],0),([gU,nS],1),([iV,nS],2),([stS,noS],3),([gU,noS],4),([iV,noS],5)]
theorem r8 {a b:List UInt8}(h:a≠b):bs a≠bs b:=fun e=>h (by have:=congrArg bl e;rwa [cZ,cZ]at this)
theorem ne1:stS≠gU:=r8 (by decide)
theorem ne2:stS≠iV:=r8 (by decide)
theorem ne3:gU≠iV:=r8 (by decide)
theorem ne4:nS≠stS:=r8 (by decide)
theorem ne5:nS≠noS:=r8 (by decide)
theorem iK {l:List UInt8}{b:Nat}(h1:rA l=true)(a:1<=l.length)(c:l.length<=b):eY (bs l) b:=by
 have:(bs l).size=l.length:=by rw[<-b9,cZ]
 exact⟨by rw[cZ];exact h1,by omega,by omega⟩
theorem nY:dS exS:=by
 refine⟨by decide,fun s b=>?_,?_⟩
 .simp only[exS,mem_cons,not_mem_nil,or_false]at b;have a:df (bl enS)=true:=by unfold enS;rw[cZ];decide
  rcases b with rfl |rfl |rfl
  .exact⟨a,iK (by decide) (by decide) (by decide),iK (by decide) (by decide) (by decide),by decide,by decide⟩
  .exact⟨a,iK (by decide) (by decide) (by decide),iK (by decide) (by decide) (by decide),by decide,by decide⟩
  .exact⟨a,iK (by decide) (by decide) (by decide),iK (by decide) (by decide) (by decide),by decide,by decide⟩
 .simp only[exS,nodup_cons,mem_cons,not_mem_nil,or_false,Sht.mk.injEq,not_or];simp[ne3,ne4.symm]
theorem A7:Plain [stS,nS]:=by
 refine⟨by decide,by decide,fun w hw=>?_⟩;simp only[mem_cons,not_mem_nil,or_false]at hw;rcases hw with rfl |rfl
 .exact iK (by decide) (by decide) (by decide)
 .exact iK (by decide) (by decide) (by decide)
theorem Ex:chs exS stS=[(stS,0),(gU,1),(iV,2)]:=by
 simp[chs,exS,oq,ne4,ne1.symm,ne2.symm,ne3.symm]
theorem EY:chs exS nS=[(nS,0),(noS,3)]:=by
 simp[chs,exS,oq,ne4.symm,ne5.symm]
theorem A8:dq exS [stS,nS] exW 0:=by
 have a:dN exS [stS,nS]=[[(stS,0),(gU,1),(iV,2)],[(nS,0),(noS,3)]]:=by
  unfold dN;simp only[map_cons,map_nil,Ex,EY]
 refine .inr (.inr ⟨⟨nY,A7⟩,by rw[a];decide,rfl,?_,by rw[a];rfl,fun x=>?_⟩)
 .simp[lP,exW,ltX]
 .have hm:x∈ep (dN exS [stS,nS]) [] 0↔∃ps,jv (dN exS [stS,nS]) ps/\x=(ps.map (·.1),rP ps):=by
   rw[kn];simp
  rw[<-hm,a];simp only[ep,exW,flatMap_cons,flatMap_nil,append_nil,mem_cons,mem_append,not_mem_nil,or_false];simp only[nil_append,cons_append];constructor
  .rintro(h |h |h |h |h |h)<;>simp[h]
  .rintro h;simp at h;rcases h with (h |h) |(h |h) |h |h<;>simp[h]
theorem CX {all:List (List ByteArray×Int)}(h:dq exS [stS,nS] all e):all=exW/\e=0:=dq.same (fun _ _ _=>Iff.rfl) Iff.rfl h A8
end
section
open Go.RowKit Go.Shelf Classical
theorem zR:(prog.info? 3).map (fun i=>(i.zero,i.size,i.bytes))=some (some (.int .i64 0),1,8):=by kernel_rfl
def mr:List ByteArray:=smalls.map (fun c=>bs [c])
def lh:List Int:=(range 26).map (fun i:Nat=>(i:Int))
def ExC (b:Nat)(c:World)(k j:Nat)(lv a:Value)(wr:World):Prop:=
 Blk wr (b+1) #[.string ⟨#[108,97,116,105,110]⟩,lv,a] 83/\wr.ownsRow (b+2) 9 1 lv k (strs (mr.take k))/\wr.ownsRow (b+2) 3 1 a j (nums (lh.take j))/\Below (b+1) c wr
def ExI (b:Nat)(a:World)(k:Nat)(wr:World):Prop:=∃lv c,ExC b a k k lv c wr
theorem Bd {b k:Nat}{o wr f:World}{g cap:Nat}{c:ByteArray}(h:ExC b o k k (.slice la k lc) (.slice sa k sc) wr)(v:mr[k]?=some c)
  (i:f.ownsRow (b+2) 9 1 (.slice (some ⟨g,0,none⟩) (k+1) cap) (k+1) (strs (mr.take k)++[.string c]))(a:((wr.alloc (.cells #[.string c] 9)).drew).grownBy f (Value.slice la k lc).ownBlock):
  Blk f (b+1) #[.string ⟨#[108,97,116,105,110]⟩,.slice la k lc,.slice sa k sc] 83/\ExC b o (k+1) k (.slice (some ⟨g,0,none⟩) (k+1) cap) (.slice sa k sc) (f.setCell ⟨b+1,1,none⟩ (.slice (some ⟨g,0,none⟩) (k+1) cap)):=by
 obtain⟨h1,q,u,s⟩:=h;have d:Below wr.heap.size wr (wr.alloc (.cells #[.string c] 9)).drew:=(bX.alloc bW _).drew;have m:=cJ q d;have r:=cJ u d;have p:=h1.below d h1.lt;have l:=p.grown a (fun e=>Blk.own_ne p m (by decide) e.symm);have n:=dK r m (by decide) a;have t:Below (b+1) o f:=(s.trans (d.mono (by have:=h1.lt;omega))).grown a (by have:=h1.lt;have:=s.size;have:=d.size;omega) (fun j w=>by have:=(q.lt j w).1;omega);refine⟨l,l.aj 1 _,?_,cV n (fun e=>Blk.own_ne l n (by decide) e) _,t.setCell bW _⟩;have e:strs (mr.take (k+1))=strs (mr.take k)++[.string c]:=by rw[take_add_one,v,Option.toList_some];simp[strs]
 rw[e];exact cV i (fun e=>Blk.own_ne l i (by decide) e) _
theorem wH {b k:Nat}{n d g:World}{a9:Option Addr}{c9:Nat}(h:ExC b n (k+1) k (.slice la (k+1) lc) (.slice sa k sc) d)(hk:k<26)
  (f:g.ownsRow (b+2) 3 1 (.slice a9 (k+1) c9) (k+1) (nums (lh.take k)++[.int .i64 (k:Int)]))(a:(d.alloc (.cells #[.int .i64 (k:Int)] 3)).grownBy g (Value.slice sa k sc).ownBlock):
  Blk g (b+1) #[.string ⟨#[108,97,116,105,110]⟩,.slice la (k+1) lc,.slice sa k sc] 83/\ExI b n (k+1) (g.setCell ⟨b+1,2,none⟩ (.slice a9 (k+1) c9)):=by
 obtain⟨h1,t,q,r⟩:=h;have c:Below d.heap.size d (d.alloc (.cells #[.int .i64 (k:Int)] 3)):=bX.alloc bW _;have p:=cJ t c;have m:=cJ q c;have o:=h1.below c h1.lt;have i:=o.grown a (fun e=>Blk.own_ne o m (by decide) e.symm);have l:=dK p m (by decide) a;have s:Below (b+1) n g:=(r.trans (c.mono (by have:=h1.lt;omega))).grown a (by have:=h1.lt;have:=r.size;have:=c.size;omega) (fun j u=>by have:=(q.lt j u).1;omega);refine⟨i,_,_,i.aj 2 _,cV l (fun e=>Blk.own_ne i l (by decide) e) _,?_,s.setCell bW _⟩;have e:nums (lh.take (k+1))=nums (lh.take k)++[.int .i64 (k:Int)]:=by
  have:lh[k]?=some (k:Int):=by simp[lh,hk]
  rw[take_add_one,this,Option.toList_some];simp[nums]
 rw[e];exact cV f (fun e=>Blk.own_ne i f (by decide) e) _
theorem DQ:∀k:Fin 26,mr[k.1]?=some ((⟨#[97,98,99,100,101,102,103,104,105,106,107,108,109,110,111,112,113,114,115,116,117,118,119,120,121,122]⟩:ByteArray).extract k.1 (k.1+1)):=by decide
theorem dE {W:World}{p:Nat}{xs:List Value}{t:TypeId}(h:Blk W p xs.toArray t):b8 W W.heap.size (some ⟨p,0,none⟩) xs:=fun _=>⟨p,0,rfl,h.lt,fun i x a=>by
 rw[Nat.zero_add];exact(h.cell i).trans (by simpa using a)⟩
theorem oy {W:World}{p k:Nat}{rows:List (List Value)}{t:TypeId}(h:Blk W p rows.flatten.toArray t)(hk:∀r∈rows,r.length=k):c8 W W.heap.size k (some ⟨p,0,none⟩) rows:=fun _=>⟨p,0,rfl,h.lt,fun i r b j x c=>by
 have key:∀(rows:List (List Value)),(∀r∈rows,r.length=k)->∀(i:Nat) (r:List Value),rows[i]?=some r->∀(j:Nat) (x:Value),r[j]?=some x->rows.flatten[i*k+j]?=some x:=by
  intro rows;induction rows with
  |nil=>intro _ i r b;simp at b
  |cons a l f=>
   intro hk i r b j x c;have d:=hk a (mem_cons_self ..);match i,b with
   |0,b=>
    obtain rfl:a=r:=by simpa using b
    rw[flatten_cons,Nat.zero_mul,Nat.zero_add,getElem?_append_left (List.getElem?_eq_some_iff.1 c).1];exact c
   |i+1,b=>
    rw[flatten_cons,getElem?_append_right (by rw[d,succ_mul];omega),d,show(i+1)*k+j-k=i*k+j by rw[succ_mul];omega];exact f (fun r e=>hk r (mem_cons_of_mem _ e)) i r (by simpa using b) j x c
 rw[Nat.zero_add];exact(h.cell (i*k+j)).trans (by have:=key rows hk i r b j x c;simpa using this)⟩
theorem CV {W:World}{p q u1 u2 r base:Nat}
  (v:Blk W p #[.string ⟨#[108,97,116,105,110]⟩,.slice la 26 lc,.slice sa 26 sc,.string ⟨#[117,112,112,101,114]⟩,.slice (some ⟨u1,0,none⟩) 3 3,.slice (some ⟨u2,0,none⟩) 3 3] 83)
  (n:W.ownsRow base 9 1 (.slice la 26 lc) 26 (strs mr))(o:W.ownsRow base 3 1 (.slice sa 26 sc) 26 (nums lh))
  (h1:Blk W u1 #[.string ⟨#[65]⟩,.string ⟨#[78]⟩,.string ⟨#[67]⟩] 9)(m:Blk W u2 #[.int .i64 0,.int .i64 1,.int .i64 2] 3)
  (u:Blk W r #[.string ⟨#[65]⟩,.string ⟨#[97]⟩,.string ⟨#[]⟩,.bool false,.string ⟨#[78]⟩,.string ⟨#[110]⟩,.string ⟨#[]⟩,.bool false,.string ⟨#[67]⟩,.string ⟨#[99,104]⟩,.string ⟨#[]⟩,.bool false] 88)
  (t:Blk W q #[.string ⟨#[117,112,112,101,114]⟩,.string ⟨#[108,97,116,105,110]⟩,.slice (some ⟨r,0,none⟩) 3 3] 91):
  dm W W.heap.size (.agg #[.slice (some ⟨p,0,none⟩) 2 2,.slice (some ⟨q,0,none⟩) 1 1]) exB:=by
 have el:eP.letters=mr:=rfl;have es:eP.small=lh:=by decide
 obtain⟨z,B,k, -,w⟩:=b8.ah n;cases k
 obtain⟨a2,C,l, -,y⟩:=b8.ah o;cases l
 have e:cH W W.heap.size (.agg #[.string ⟨#[108,97,116,105,110]⟩,.slice la 26 lc,.slice sa 26 sc]) eP:=by
  refine⟨la,lc,sa,sc,rfl,by decide,by decide,by decide,fun s d=>?_,by rw[el];exact w,by rw[es];exact y⟩;rw[el]at d;obtain⟨c,_,rfl⟩:=mem_map.1 d;show(bs [c]).size<=maxLen;rw[<-b9,cZ];unfold maxLen;simp
 have g:cH W W.heap.size (.agg #[.string ⟨#[117,112,112,101,114]⟩,.slice (some ⟨u1,0,none⟩) 3 3,.slice (some ⟨u2,0,none⟩) 3 3]) dW:=by
  refine⟨some ⟨u1,0,none⟩,3,some ⟨u2,0,none⟩,3,rfl,by decide,by decide,by decide,fun s d=>?_,dE (xs:=strs dW.letters) h1,dE (xs:=nums dW.small) m⟩;obtain⟨c,_,rfl⟩:=mem_map.1 (show s∈([65,78,67]:List UInt8).map (fun c=>bs [c])from d);rw[<-b9,cZ];unfold maxLen;simp
 have f:dY W W.heap.size (.agg #[.string ⟨#[117,112,112,101,114]⟩,.string ⟨#[108,97,116,105,110]⟩,.slice (some ⟨r,0,none⟩) 3 3]) exR:=by
  refine⟨some ⟨r,0,none⟩,3,rfl,by decide,by decide,by decide,fun x j=>?_,oy (rows:=exR.list.map Rul.cells) u (by simp[exR,Rul.cells])⟩;simp only[exR,mem_cons,not_mem_nil,or_false]at j;rcases j with rfl |rfl |rfl<;>exact⟨by decide,by decide,by decide⟩
 refine⟨_,_,_,_,rfl,by decide,by decide,⟨[[.string ⟨#[108,97,116,105,110]⟩,.slice la 26 lc,.slice sa 26 sc],[.string ⟨#[117,112,112,101,114]⟩,.slice (some ⟨u1,0,none⟩) 3 3,.slice (some ⟨u2,0,none⟩) 3 3]],rfl,oy (rows:=[_,_]) v (by simp),fun i r A a b=>?_⟩,⟨[[.string ⟨#[117,112,112,101,114]⟩,.string ⟨#[108,97,116,105,110]⟩,.slice (some ⟨r,0,none⟩) 3 3]],rfl,oy (rows:=[_]) t (by simp),fun i r A a b=>?_⟩⟩
 .match i,a,b with
  |0,a,b=>
   obtain rfl:=Option.some.inj a;obtain rfl:eP=A:=Option.some.inj b;exact e
  |1,a,b=>
   obtain rfl:=Option.some.inj a;obtain rfl:dW=A:=Option.some.inj b;exact g
  |i+2,a,b=>simp at a
 .match i,a,b with
  |0,a,b=>
   obtain rfl:=Option.some.inj a;obtain rfl:exR=A:=Option.some.inj b;exact f
  |i+1,a,b=>simp at a
set_option maxRecDepth 100000
set_option maxHeartbeats 2000000
theorem qF (w:World):Calls prog 19 #[] w fun e w'=>∃v,e= .returned v/\dm w' w'.heap.size v exB/\Below w.heap.size w w':=by
 obtain⟨i0,hi,ak,al,an⟩:=info_parts fP;obtain⟨j0,hj,af,ag,ai⟩:=info_parts zR;go_enter func19,ntmps19;go_upto_region 2 with (fail);obtain⟨M,A⟩:∃M:World,M=(w.alloc (.cells #[.slice none 0 0,.slice none 0 0] 25)).alloc (.cells #[.string ⟨#[108,97,116,105,110]⟩,.slice none 0 0,.slice none 0 0] 83):=⟨_,rfl⟩;rw[<-A];have U:Below w.heap.size w M:=by rw[A];exact(bX.alloc bW _).alloc (by simp) _
 have aD:M.heap.size=w.heap.size+2:=by rw[A];simp
 have k0:Blk M w.heap.size #[.slice none 0 0,.slice none 0 0] 25:=by rw[A];exact(Blk.new _ _ _).alloc _
 have k1:Blk M (w.heap.size+1) #[.string ⟨#[108,97,116,105,110]⟩,.slice none 0 0,.slice none 0 0] 83:=by rw[A];have:=Blk.new (w.alloc (.cells #[.slice none 0 0,.slice none 0 0] 25)) #[.string ⟨#[108,97,116,105,110]⟩,.slice none 0 0,.slice none 0 0] 83;simpa using this
 obtain⟨b,hb⟩:∃b,w.heap.size=b:=⟨_,rfl⟩;rw[hb]at U aD k0 k1⊢;have H0:=bT U k0 k1 hb;clear A U k0 k1 hb;go_wp2_with fail;go_loopw [2] (fun i wr=>∃k:Nat,k<=26/\i= .int .i64 k/\ExI b M k wr) (fun i _=>26-(intOf i).toNat);case atStart=>exact⟨0,zero_le _,rfl,_,_,H0.out.2.2.1,ownsRow_nil _ _ _ _,ownsRow_nil _ _ _ _,bX⟩
 case round=>
  obtain⟨k,hk,rfl,lv,sv,u⟩:=hrel;by_cases X:k<26
  .obtain⟨la,lc,rfl, -, -⟩:=b8.ah u.2.1;obtain⟨sa,sc,rfl, -, -⟩:=b8.ah u.2.2.1;have ae:=u.2.2.2.size;obtain⟨c,ax⟩:∃c,(⟨#[97,98,99,100,101,102,103,104,105,106,107,108,109,110,111,112,113,114,115,116,117,118,119,120,121,122]⟩:ByteArray).extract k (k+1)=c:=⟨_,rfl⟩;have Y:=bP (show mr[k]?=some c by rw[<-ax];exact DQ ⟨k,X⟩);have hA:0<=(k:Int)+1/\(k:Int)+1<=26:=by omega
   have hC:(k:Int)<=(k:Int)+1:=by omega
   have aO:IntKind.i64.wrap ((k:Int)+1)=(k:Int)+1:=IntWalk.i64_in _ (by omega);have c1:wr.cell? ⟨b+1,1,none⟩=some (.slice la k lc):=u.1.cell 1;have ad:(wr.alloc (.cells #[.string c] 9)).cell? ⟨b+1,1,none⟩=some (.slice la k lc):=(u.1.alloc _).cell 1;have HX:=bQ (cJ u.2.1 (((Below.refl _ wr).alloc bW (.cells #[.string c] 9)).drew)) trivial;have s:=bP u;clear u;go_upto_region 5 with (fail);refine wp_region_held_drew (S:=fun _=>True) (by kernel_rfl) trivial (fun aL=>?_);refine wpAnyH_take (i:=0) (v:= .pointer (some ⟨b+1,1,none⟩)) rfl (by kernel_rfl) (by kernel_rfl) (by kernel_rfl) (fun _ _ _ h=>h) (Or.inl ⟨by rfl,?_⟩) (by assumption) ?_
   .intro w' _;go_simp<;>with_reducible rfl
   try simp only[Act.put,getElem_toArray,getElem_cons_zero,setIfInBounds_toArray,set_cons_zero,set_cons_succ]
   refine wpAnyH_take (i:=2) (v:= .int .i64 k) rfl (by kernel_rfl) (by kernel_rfl) (by kernel_rfl) (fun _ _ _ h=>h) (Or.inl ⟨by rfl,?_⟩) (by assumption) ?_
   .intro w' _;go_simp<;>with_reducible rfl
   try simp only[Act.put,getElem_toArray,getElem_cons_succ,getElem_cons_zero,setIfInBounds_toArray,set_cons_zero,set_cons_succ]
   refine wpAnyH_take (i:=3) (v:= .int .i64 k) rfl (by kernel_rfl) (by kernel_rfl) (by kernel_rfl) (fun _ _ _ h=>h) (Or.inl ⟨by rfl,?_⟩) (by assumption) ?_
   .intro w' _;go_simp<;>with_reducible rfl
   try simp only[Act.put,getElem_toArray,getElem_cons_succ,getElem_cons_zero,setIfInBounds_toArray,set_cons_zero,set_cons_succ]
   refine wpAnyH_take (i:=4) (v:= .int .i64 ((k:Int)+1)) rfl (by kernel_rfl) (by kernel_rfl) (by kernel_rfl) (fun _ _ _ h=>h) (Or.inl ⟨by rfl,?_⟩) (by assumption) ?_
   .intro w' _;go_simp<;>with_reducible rfl
   try simp only[Act.put,getElem_toArray,getElem_cons_succ,getElem_cons_zero,setIfInBounds_toArray,set_cons_zero,set_cons_succ]
   refine wpAnyH_take (i:=5) (v:= .string c) rfl (by kernel_rfl) (by kernel_rfl) (by kernel_rfl) (fun _ _ _ h=>h) (Or.inl ⟨by rfl,?_⟩) (by assumption) ?_
   .intro w' _;go_simp<;>with_reducible rfl
   try simp only[Act.put,getElem_toArray,getElem_cons_succ,getElem_cons_zero,setIfInBounds_toArray,set_cons_zero,set_cons_succ]
   refine wpAnyH_ready (rs:=[1,6]) (by kernel_rfl) (by simp) ?_;refine(AllReadyH.cons rfl (fun K hK=>?_) (AllReadyH.cons rfl (fun K hK=>?_) AllReadyH.nil))
   .go_simp;refine hK.out _ _ trivial (fun _=>?_);clear hK K;try simp only[Act.put,getElem_toArray,getElem_cons_succ,getElem_cons_zero,setIfInBounds_toArray,set_cons_zero,set_cons_succ]
    refine rd1 6 (fun K hK=>?_);go_simp;refine hK.out _ _ trivial (fun _=>?_);clear hK K;try simp only[Act.put,getElem_toArray,getElem_cons_succ,getElem_cons_zero,setIfInBounds_toArray,set_cons_zero,set_cons_succ]
    refine rd1 7 (fun K hK=>?_);refine step_append_lies _ (by rfl) _ _ _ (by rfl) (b+2) 9 i0 (.string ByteArray.empty) 1 16 underlying29 hi ak al an rfl (by decide) (.slice la k lc) k (strs (mr.take k)) (by rfl) HX.out.1 ⟨wr.heap.size,0,none⟩ 1 1 [.string c] (by rfl) rfl (by exact cell_one_new _ _ _) (by simp[Value.oneCell']) (by decide) (by unfold maxLen;omega) (by omega) (by simp;omega) _ rfl ?_;intro g cap N q n T H;have D:=bP (Bd s.out Y.out q n);have e1:N.cell? ⟨b+1,1,none⟩=some (.slice la k lc):=D.out.1.cell 1;have f1:N.frozen? ⟨b+1,1,none⟩=false:=D.out.1.frozen 1;clear T H q n;refine hK.out _ _ trivial (fun _=>?_);clear hK K;try simp only[Act.put,setIfInBounds_toArray,set_cons_zero,set_cons_succ]
    refine rd1 8 (fun K hK=>?_);go_simp;refine hK.out _ _ trivial (fun _=>?_);clear hK K;try simp only[Act.put,getElem_toArray,getElem_cons_succ,getElem_cons_zero,setIfInBounds_toArray,set_cons_zero,set_cons_succ]
    refine rd1 9 (fun K hK=>?_);go_simp;refine hK.out _ _ trivial (fun _=>?_);clear hK K;try simp only[Act.put,getElem_toArray,getElem_cons_succ,getElem_cons_zero,setIfInBounds_toArray,set_cons_zero,set_cons_succ]
    refine wpAnyH_done (by kernel_rfl) ?_ _;obtain⟨F,z⟩:∃F:World,F=N.setCell ⟨b+1,1,none⟩ (.slice (some ⟨g,0,none⟩) (k+1) cap):=⟨_,rfl⟩;rw[<-z];have f:=D.out.2;rw[<-z]at f;have f:=bP f;have d2:F.cell? ⟨b+1,2,none⟩=some (.slice sa k sc):=f.out.1.cell 2;have aE:=f.out.2.2.2.size;clear z D e1 f1 c1 ad HX s;go_wp2_with (at_builtin;refine wpList_append_own _ rfl _ _ 79 rfl (b+2) 3 j0 _ 1 8 underlying79 hj af ag ai rfl (by decide) _ _ _ rfl (f.out.2.2.1.alloc _) ⟨F.heap.size,0,none⟩ 1 1 [.int .i64 (k:Int)] rfl rfl (by exact cell_one_new _ _ _) (by simp[Value.oneCell']) (by unfold maxLen;omega) (by omega) (by simp;omega) ?_);intro v9 Z a l _;obtain⟨a9,c9,rfl, -, -⟩:=b8.ah a;have L:=bP (wH (k:=k) f.out X a l);have g2:Z.cell? ⟨b+1,2,none⟩=some (.slice sa k sc):=L.out.1.cell 2;have gf:Z.frozen? ⟨b+1,2,none⟩=false:=L.out.1.frozen 2;clear d2 a l f;go_wp2_with fail;exact⟨⟨k+1,by omega,by go_num,L.out.2⟩,by simp[intOf];omega⟩
   .go_simp;refine hK.out _ _ trivial (fun _=>?_);clear hK K;try simp only[Act.put,getElem_toArray,getElem_cons_succ,getElem_cons_zero,setIfInBounds_toArray,set_cons_zero,set_cons_succ]
    refine rd1 1 (fun K hK=>?_);go_simp;refine hK.out _ _ trivial (fun _=>?_);clear hK K;try simp only[Act.put,getElem_toArray,getElem_cons_succ,getElem_cons_zero,setIfInBounds_toArray,set_cons_zero,set_cons_succ]
    refine rd1 7 (fun K hK=>?_);refine step_append_lies _ (by rfl) _ _ _ (by rfl) (b+2) 9 i0 (.string ByteArray.empty) 1 16 underlying29 hi ak al an rfl (by decide) (.slice la k lc) k (strs (mr.take k)) (by rfl) HX.out.1 ⟨wr.heap.size,0,none⟩ 1 1 [.string c] (by rfl) rfl (by exact cell_one_new _ _ _) (by simp[Value.oneCell']) (by decide) (by unfold maxLen;omega) (by omega) (by simp;omega) _ rfl ?_;intro g cap N q n T H;have D:=bP (Bd s.out Y.out q n);have e1:N.cell? ⟨b+1,1,none⟩=some (.slice la k lc):=D.out.1.cell 1;have f1:N.frozen? ⟨b+1,1,none⟩=false:=D.out.1.frozen 1;clear T H q n;refine hK.out _ _ trivial (fun _=>?_);clear hK K;try simp only[Act.put,setIfInBounds_toArray,set_cons_zero,set_cons_succ]
    refine rd1 8 (fun K hK=>?_);go_simp;refine hK.out _ _ trivial (fun _=>?_);clear hK K;try simp only[Act.put,getElem_toArray,getElem_cons_succ,getElem_cons_zero,setIfInBounds_toArray,set_cons_zero,set_cons_succ]
    refine rd1 9 (fun K hK=>?_);go_simp;refine hK.out _ _ trivial (fun _=>?_);clear hK K;try simp only[Act.put,getElem_toArray,getElem_cons_succ,getElem_cons_zero,setIfInBounds_toArray,set_cons_zero,set_cons_succ]
    refine wpAnyH_done (by kernel_rfl) ?_ _;obtain⟨F,z⟩:∃F:World,F=N.setCell ⟨b+1,1,none⟩ (.slice (some ⟨g,0,none⟩) (k+1) cap):=⟨_,rfl⟩;rw[<-z];have f:=D.out.2;rw[<-z]at f;have f:=bP f;have d2:F.cell? ⟨b+1,2,none⟩=some (.slice sa k sc):=f.out.1.cell 2;have aE:=f.out.2.2.2.size;clear z D e1 f1 c1 ad HX s;go_wp2_with (at_builtin;refine wpList_append_own _ rfl _ _ 79 rfl (b+2) 3 j0 _ 1 8 underlying79 hj af ag ai rfl (by decide) _ _ _ rfl (f.out.2.2.1.alloc _) ⟨F.heap.size,0,none⟩ 1 1 [.int .i64 (k:Int)] rfl rfl (by exact cell_one_new _ _ _) (by simp[Value.oneCell']) (by unfold maxLen;omega) (by omega) (by simp;omega) ?_);intro v9 Z a l _;obtain⟨a9,c9,rfl, -, -⟩:=b8.ah a;have L:=bP (wH (k:=k) f.out X a l);have g2:Z.cell? ⟨b+1,2,none⟩=some (.slice sa k sc):=L.out.1.cell 2;have gf:Z.frozen? ⟨b+1,2,none⟩=false:=L.out.1.frozen 2;clear d2 a l f;go_wp2_with fail;exact⟨⟨k+1,by omega,by go_num,L.out.2⟩,by simp[intOf];omega⟩
  .obtain rfl:k=26:=by omega
   obtain⟨la,lc,rfl, -, -⟩:=b8.ah u.2.1;obtain⟨sa,sc,rfl, -, -⟩:=b8.ah u.2.2.1;have s:=bP u;clear u;go_upto_region 9 with (fail);generalize y:((((wr.alloc _).alloc _).alloc _).alloc _)=d;have ae:=s.out.2.2.2.size;obtain⟨o,P⟩:∃o,wr.heap.size=o:=⟨_,rfl⟩;have aq:Blk d o #[.string ⟨#[65]⟩,.string ⟨#[78]⟩,.string ⟨#[67]⟩] 9:=by rw[<-y,<-P];exact(((Blk.new _ _ _).alloc _).alloc _).alloc _
   have ar:Blk d (o+1) #[.int .i64 0,.int .i64 1,.int .i64 2] 3:=by
    rw[<-y,<-P];have:=(((Blk.new (wr.alloc (.cells #[.string ⟨#[65]⟩,.string ⟨#[78]⟩,.string ⟨#[67]⟩] 9)) #[.int .i64 0,.int .i64 1,.int .i64 2] 3).alloc (.cells #[.string ⟨#[117,112,112,101,114]⟩,.slice (some ⟨wr.heap.size,0,none⟩) 3 3,.slice (some ⟨wr.heap.size+1,0,none⟩) 3 3] 83)));simp only[size_alloc]at this;exact this.alloc _
   have J:Blk d (o+2) #[.string ⟨#[117,112,112,101,114]⟩,.slice (some ⟨o,0,none⟩) 3 3,.slice (some ⟨o+1,0,none⟩) 3 3] 83:=by
    rw[<-y,<-P];have:=(Blk.new ((wr.alloc (.cells #[.string ⟨#[65]⟩,.string ⟨#[78]⟩,.string ⟨#[67]⟩] 9)).alloc (.cells #[.int .i64 0,.int .i64 1,.int .i64 2] 3)) #[.string ⟨#[117,112,112,101,114]⟩,.slice (some ⟨wr.heap.size,0,none⟩) 3 3,.slice (some ⟨wr.heap.size+1,0,none⟩) 3 3] 83);simp only[size_alloc]at this;exact this.alloc _
   have ao:Blk d (o+3) #[.string ⟨#[65]⟩,.string ⟨#[97]⟩,.string ⟨#[]⟩,.bool false,.string ⟨#[78]⟩,.string ⟨#[110]⟩,.string ⟨#[]⟩,.bool false,.string ⟨#[67]⟩,.string ⟨#[99,104]⟩,.string ⟨#[]⟩,.bool false] 88:=by
    rw[<-y,<-P];have:=Blk.new (((wr.alloc (.cells #[.string ⟨#[65]⟩,.string ⟨#[78]⟩,.string ⟨#[67]⟩] 9)).alloc (.cells #[.int .i64 0,.int .i64 1,.int .i64 2] 3)).alloc (.cells #[.string ⟨#[117,112,112,101,114]⟩,.slice (some ⟨wr.heap.size,0,none⟩) 3 3,.slice (some ⟨wr.heap.size+1,0,none⟩) 3 3] 83)) #[.string ⟨#[65]⟩,.string ⟨#[97]⟩,.string ⟨#[]⟩,.bool false,.string ⟨#[78]⟩,.string ⟨#[110]⟩,.string ⟨#[]⟩,.bool false,.string ⟨#[67]⟩,.string ⟨#[99,104]⟩,.string ⟨#[]⟩,.bool false] 88;simp only[size_alloc]at this;exact this
   have C:Below wr.heap.size wr d:=by rw[<-y];exact(((bX.alloc bW _).alloc (by simp) _).alloc (by simp;omega) _).alloc (by simp;omega) _
   have O:d.heap.size=o+4:=by rw[<-y];simp[P]
   clear y;have k1:=s.out.1.below C s.out.1.lt;have k0:=(H0.out.2.1.below s.out.2.2.2 (by omega)).below C (by omega);have E:=bV aq ar J ao (cJ s.out.2.1 C) (And.intro (cJ s.out.2.2.1 C) (And.intro k0 (s.out.2.2.2.trans (C.mono (by omega)))));rw[P];have x0:d.cell? ⟨b+1,0,none⟩=_:=k1.cell 0;have x1:d.cell? ⟨b+1,1,none⟩=_:=k1.cell 1;have x2:d.cell? ⟨b+1,2,none⟩=_:=k1.cell 2;have y0:d.cell? ⟨o+2,0,none⟩=_:=J.cell 0;have y1:d.cell? ⟨o+2,1,none⟩=_:=J.cell 1;have y2:d.cell? ⟨o+2,2,none⟩=_:=J.cell 2;simp only[getElem?_toArray,getElem?_cons_zero,getElem?_cons_succ]at x0 x1 x2 y0 y1 y2;have aN:b<o:=by omega
   obtain⟨x,B⟩:∃x:World,x=(d.alloc (.cells #[.string ⟨#[108,97,116,105,110]⟩,.slice la 26 lc,.slice sa 26 sc,.string ⟨#[117,112,112,101,114]⟩,.slice (some ⟨o,0,none⟩) 3 3,.slice (some ⟨o+1,0,none⟩) 3 3] 83)).alloc (.cells #[.string ⟨#[117,112,112,101,114]⟩,.string ⟨#[108,97,116,105,110]⟩,.slice (some ⟨o+1+1+1,0,none⟩) 3 3] 91):=⟨_,rfl⟩;have V:Below d.heap.size d x:=by rw[B];exact(bX.alloc bW _).alloc (by simp) _
   have kp:Blk x (o+4) #[.string ⟨#[108,97,116,105,110]⟩,.slice la 26 lc,.slice sa 26 sc,.string ⟨#[117,112,112,101,114]⟩,.slice (some ⟨o,0,none⟩) 3 3,.slice (some ⟨o+1,0,none⟩) 3 3] 83:=by rw[B,<-O];exact(Blk.new _ _ _).alloc _
   have kq:Blk x (o+5) #[.string ⟨#[117,112,112,101,114]⟩,.string ⟨#[108,97,116,105,110]⟩,.slice (some ⟨o+3,0,none⟩) 3 3] 91:=by
    rw[B];have:=Blk.new (d.alloc (.cells #[.string ⟨#[108,97,116,105,110]⟩,.slice la 26 lc,.slice sa 26 sc,.string ⟨#[117,112,112,101,114]⟩,.slice (some ⟨o,0,none⟩) 3 3,.slice (some ⟨o+1,0,none⟩) 3 3] 83)) #[.string ⟨#[117,112,112,101,114]⟩,.string ⟨#[108,97,116,105,110]⟩,.slice (some ⟨o+3,0,none⟩) 3 3] 91;rwa [size_alloc,O]at this
   have I:=E.out.2.2.2.2.2.2.1.below V (by omega);have z0:x.cell? ⟨b,0,none⟩=some (.slice none 0 0):=I.cell 0;have z1:x.cell? ⟨b,1,none⟩=some (.slice none 0 0):=I.cell 1;have zf:∀j,x.frozen? ⟨b,j,none⟩=false:=fun j=>I.frozen j;have r:=bU V kp kq I O;rw[B]at z0 z1 zf;clear V kp kq I aq ar J ao k1 k0 C ae;go_wp2_with fail;rw[<-B];clear z0 z1 zf x0 x1 x2 y0 y1 y2 B;have kF:=(r.out.2.2.2.1.aj 0 (.slice (some ⟨o+4,0,none⟩) 2 2)).aj 1 (.slice (some ⟨o+4+1,0,none⟩) 1 1);obtain⟨WF,R⟩:∃WF:World,WF=(x.setCell ⟨b,0,none⟩ (.slice (some ⟨o+4,0,none⟩) 2 2)).setCell ⟨b,1,none⟩ (.slice (some ⟨o+4+1,0,none⟩) 1 1):=⟨_,rfl⟩;rw[<-R]at kF⊢;have m:Chg (fun k=>k=b) x WF:=by rw[R];exact(Chg.setCell (S:=fun k=>k=b) x (p:=⟨b,0,none⟩) (.inl rfl) _).trans (Chg.setCell (S:=fun k=>k=b) _ (p:=⟨b,1,none⟩) (.inl rfl) _)
   clear R;have m0:WF.cell? ⟨b,0,none⟩=some (.slice (some ⟨o+4,0,none⟩) 2 2):=kF.cell 0;have m1:WF.cell? ⟨b,1,none⟩=some (.slice (some ⟨o+4+1,0,none⟩) 1 1):=kF.cell 1;have O:=r.out.2.2.2.2;refine bodyPost_ret (v:= .agg #[.slice (some ⟨o+4,0,none⟩) 2 2,.slice (some ⟨o+4+1,0,none⟩) 1 1]) (by simp[results,results19,go_sem,m0,m1]) rfl ?_;have up:∀{p:Nat} {cs:Array Value} {t:TypeId},p≠b->p<d.heap.size->Blk d p cs t->Blk WF p cs t:=fun aC H h=>(h.below r.out.1 H).chg m aC;have G:=H0.out.1;refine⟨_,rfl,CV (base:=b+2) (r.out.2.1.chg m (by omega)) (fj (cJ E.out.2.2.2.2.1 r.out.1) m (fun g hg e=>?_)) (fj (cJ E.out.2.2.2.2.2.1 r.out.1) m (fun g hg e=>?_))
    (up (by omega) (by omega) E.out.1) (up (by omega) (by omega) E.out.2.1) (up (by omega) (by omega) E.out.2.2.2.1) (r.out.2.2.1.chg m (by omega)),?_⟩
   .have:=(E.out.2.2.2.2.1.lt g hg).1;omega
   .have:=(E.out.2.2.2.2.2.1.lt g hg).1;omega
   .rw[H0.out.2.2.2];have Q:=E.out.2.2.2.2.2.2.2;have hz:=G.size;refine⟨m.os.trans (r.out.1.os.trans (Q.os.trans G.os)),m.tape.trans (r.out.1.tape.trans (Q.tape.trans G.tape)),m.output.trans (r.out.1.output.trans (Q.output.trans G.output)),Nat.le_trans hz (Nat.le_trans Q.size (Nat.le_trans r.out.1.size m.size)),fun k hk=>?_⟩;exact(m.block k (by have:=r.out.1.size;omega) (by omega)).trans ((r.out.1.block k (by omega)).trans ((Q.block k (by omega)).trans (G.block k hk)))
end
section
open Go Classical
theorem rY {ks:List Plc}(h:ks.Nodup)(p:Plc):(eC ks p).Nodup:=by
 unfold eC;split
 .exact h
 .rename_i hp;exact nodup_append.2 ⟨h,by simp,fun a c b d e=>hp (by rw[<-mem_singleton.1 d,<-e];exact c)⟩
theorem xC {l:List Arc}{s c:Int}{k:Nat}(hk:l[k]?=some a)(h:a.frm=s/\a.inp=c):c7 (l.take (k+1)) s c=c7 (l.take k) s c++[a]:=by
 unfold c7;rw[take_add_one,hk,filter_append];simp[h]
theorem uD {l:List Arc}{s c:Int}{k:Nat}(hk:l[k]?=some a)(h:¬(a.frm=s/\a.inp=c)):c7 (l.take (k+1)) s c=c7 (l.take k) s c:=by
 unfold c7;rw[take_add_one,hk,filter_append];simp[h]
structure o8 (M:cu)(L:Nat)(ks0:List Plc):Prop where
 nodup:ks0.Nodup
 size:∀p∈ks0,p.tx.size<=L+1
 st:∀p∈ks0,cD M.ag p.st
 len:ks0.length<=40000
structure nK (M:cu)(L:Nat)(ks0:List Plc)(i:Nat)(ks:List Plc):Prop where
 b:oQ M (·∈ks0) L i ks
 nodup:ks.Nodup
 il:i<=2000
 len:ks.length<=40000
structure iZ (M:cu)(L:Nat)(ks0:List Plc)(i:Nat)(p:Plc)(k:Nat)(ks:List Plc):Prop where
 c:oR M (·∈ks0) L i p (c7 (M.arcs.take k) p.st 0) ks
 nodup:ks.Nodup
 len:ks.length<=2000+k
structure lR (M:cu)(L:Nat)(ks0 ks:List Plc):Prop where
 sub:∀p∈ks0,p∈ks
 snd:∀p∈ks,Cl M (·∈ks0) p
 cmp:ks.length<=2000->∀p,Cl M (·∈ks0) p->p∈ks
 size:∀p∈ks,p.tx.size<=L+2001
 st:∀p∈ks,cD M.ag p.st
 len:ks.length<=40000
 nodup:ks.Nodup
section
variable {M : cu} {L i k : Nat} {ks0 ks : List Plc} {p : Plc}
theorem o8.look (h:o8 M L ks0):nK M L ks0 0 ks0:=
 ⟨Ph1.start ⟨fun _ h=>h,fun _ h=>h,h.size,h.st,by have:=h.len;omega⟩,h.nodup,zero_le _,h.len⟩
theorem nK.open (h:nK M L ks0 i ks)(hp:ks[i]?=some p)(a:ks.length<=2000):iZ M L ks0 i p 0 ks:=
 ⟨by rw[take_zero];exact h.b.open hp,h.nodup,a⟩
theorem iZ.hit (h:iZ M L ks0 i p k ks)(d:cN M)(hk:M.arcs[k]?=some a)(b:a.frm=p.st/\a.inp=0):iZ M L ks0 i p (k+1) (eC ks (dy p a)):=by
 have hm:=mem_of_getElem? hk;refine⟨?_,rY h.nodup _,by have:=lY ks (dy p a);have:=h.len;omega⟩;rw[xC hk b];exact h.c.step (ec.2 ⟨hm,b.1,b.2⟩) (d.arcs a hm).2.1
theorem iZ.aE (h:iZ M L ks0 i p k ks)(hk:M.arcs[k]?=some a)(b:¬(a.frm=p.st/\a.inp=0)):iZ M L ks0 i p (k+1) ks:=
 ⟨by rw[uD hk b];exact h.c,h.nodup,by have:=h.len;omega⟩
theorem iZ.close (h:iZ M L ks0 i p M.arcs.length ks)(b:cN M)(d:i<2000):nK M L ks0 (i+1) ks:=by
 have a:=h.c;rw[take_length]at a;exact⟨a.close b.an,h.nodup,by omega,by have:=h.len;have:=b.an;omega⟩
theorem nK.done (h:nK M L ks0 i ks)(a:i=ks.length\/2000<ks.length):lR M L ks0 ks:=
 ⟨h.b.cmp,h.b.snd,fun c p hp=>by
  obtain rfl:i=ks.length:=by omega
  exact h.b.finish hp,fun p hp=>by have:=h.b.size p hp;have:=h.il;omega,h.b.st,h.len,h.nodup⟩
end
structure lq (M:cu)(x:List UInt8)(i:Nat)(ks:List Plc):Prop where
 snd:∀p∈ks,Reach M (x.take i) p
 cmp:ks.length<=2000->∀p,Reach M (x.take i) p->p∈ks
 size:∀p∈ks,p.tx.size<=(i+1)*2001
 st:∀p∈ks,cD M.ag p.st
 len:ks.length<=40000
 nodup:ks.Nodup
structure oV (M:cu)(c:Int)(L:Nat)(fs:List Plc)(k:Nat)(ks:List Plc):Prop where
 snd:∀q∈ks,c≠0/\∃p∈fs,oT M c p q
 cmp:c≠0->∀p∈fs.take k,∀a∈c7 M.arcs p.st c,dy p a∈ks
 start:o8 M L ks
structure jN (M:cu)(c:Int)(L:Nat)(fs:List Plc)(k:Nat)(p:Plc)(j:Nat)(ks:List Plc):Prop where
 snd:∀q∈ks,c≠0/\∃p∈fs,oT M c p q
 cmp:c≠0->∀p∈fs.take k,∀a∈c7 M.arcs p.st c,dy p a∈ks
 got:c≠0->∀a∈c7 (M.arcs.take j) p.st c,dy p a∈ks
 nodup:ks.Nodup
 size:∀q∈ks,q.tx.size<=L+1
 st:∀q∈ks,cD M.ag q.st
 len:ks.length<=2000+j
section
variable {M : cu} {c : Int} {L i k j : Nat} {fs ks : List Plc} {p : Plc} {x : List UInt8}
theorem oV.none:oV M c L fs 0 []:=⟨by simp,by simp,⟨by simp,by simp,by simp,by simp⟩⟩
theorem oV.open (h:oV M c L fs k ks)(a:ks.length<=2000):jN M c L fs k p 0 ks:=⟨h.snd,h.cmp,by simp[xD],h.start.nodup,h.start.size,h.start.st,a⟩
theorem jN.hit (h:jN M c L fs k p j ks)(n:cN M)(hp:p∈fs)(o:p.tx.size<=L)(i:M.arcs[j]?=some a)(g:a.frm=p.st/\a.inp=c)(l:c≠0):jN M c L fs k p (j+1) (eC ks (dy p a)):=by
 have hm:=mem_of_getElem? i;refine⟨fun q d=>?_,fun f r m b e=>dI.2 (.inl (h.cmp f r m b e)),fun f b e=>?_,rY h.nodup _,fun q d=>?_,fun q d=>?_,by have:=lY ks (dy p a);have:=h.len;omega⟩
 .rcases dI.1 d with d |rfl
  .exact h.snd q d
  .exact⟨l,p,hp,a,hm,g.1,g.2,rfl⟩
 .rw[xC i g]at e;rcases mem_append.1 e with e |e
  .exact dI.2 (.inl (h.got f b e))
  .obtain rfl:=mem_singleton.1 e;exact dI.2 (.inr rfl)
 .rcases dI.1 d with d |rfl
  .exact h.size q d
  .have:=jn p.tx a.out;show(dM p.tx a.out).size<=_;omega
 .rcases dI.1 d with d |rfl
  .exact h.st q d
  .exact(n.arcs a hm).2.1
theorem jN.aE (h:jN M c L fs k p j ks)(g:M.arcs[j]?=some a)(f:¬(a.frm=p.st/\a.inp=c/\c≠0)):jN M c L fs k p (j+1) ks:=
 ⟨h.snd,h.cmp,fun d b e=>h.got d b (by rw[uD g (fun q=>f ⟨q.1,q.2,d⟩)]at e;exact e),h.nodup,h.size,h.st,by have:=h.len;omega⟩
theorem jN.close (h:jN M c L fs k p M.arcs.length ks)(d:cN M)(hp:fs[k]?=some p):oV M c L fs (k+1) ks:=
 ⟨h.snd,fun b q a=>by
  rw[take_add_one,hp,mem_append]at a;rcases a with a |a
  .exact h.cmp b q a
  .obtain rfl:q=p:=by simpa using a
   have:=h.got b;rw[take_length]at this;exact this,⟨h.nodup,h.size,h.st,by have:=h.len;have:=d.an;omega⟩⟩
theorem yB (a:cN M):o8 M 0 [(⟨M.start,⟨#[]⟩⟩:Plc)]:=
 ⟨by simp,fun p hp=>by rw[mem_singleton.1 hp];exact zero_le _,fun p hp=>by rw[mem_singleton.1 hp];exact a.start,by simp⟩
theorem lR.first (h:lR M 0 [(⟨M.start,⟨#[]⟩⟩:Plc)] ks):lq M x 0 ks:=by
 have e:∀p,Cl M (·∈[(⟨M.start,⟨#[]⟩⟩:Plc)]) p↔Reach M [] p:=fun p=>by
  rw[iF];exact⟨Cl.imp (fun q a=>by simpa using a),Cl.imp (fun q a=>by simpa using a)⟩
 exact⟨fun p hp=>by rw[take_zero];exact(e p).1 (h.snd p hp),fun b p hp=>h.cmp b p ((e p).2 (by rw[take_zero]at hp;exact hp)),fun p hp=>Nat.le_trans (h.size p hp) (by decide),h.st,h.len,h.nodup⟩
theorem lq.next (h:lq M x i fs)(v:fs.length<=2000){b:UInt8}(A:x[i]?=some b){d:List Plc}(m:oV M (b.toNat:Int) ((i+1)*2001) fs k d)(hk:fs.length<=k\/2000<d.length)(c:lR M ((i+1)*2001) d ks):lq M x (i+1) ks:=by
 have j:x.take (i+1)=x.take i++[b]:=by rw[take_add_one,A];rfl
 have o:∀p∈ks,p.tx.size<=(i+1+1)*2001:=fun p hp=>by rw[succ_mul (i+1) 2001];exact c.size p hp
 have n:∀p,p∈fs↔Reach M (x.take i) p:=fun p=>⟨h.snd p,h.cmp v p⟩;by_cases l:b=0
 .subst l;have t:d=[]:=by
   cases d with
   |nil=>rfl
   |cons q r=>exact absurd rfl (m.snd q (mem_cons_self ..)).1
  subst t;refine⟨fun p hp=>absurd (c.snd p hp) (vS (by simp)),fun _ p hp=>?_,o,c.st,c.len,c.nodup⟩;rw[j]at hp;exact absurd hp (mZ M _ p)
 .have f:((b.toNat:Nat):Int)≠0:=fun e=>l (UInt8.toNat_inj.1 (by simpa using e));have u:∀q,q∈d->ez M (Reach M (x.take i)) (b.toNat:Int) q:=fun q g=>by
   unfold ez;rw[if_neg f];obtain⟨_,p,hp,s⟩:=m.snd q g;exact⟨p,h.snd p hp,s⟩
  refine⟨fun p hp=>?_,fun y p hp=>?_,o,c.st,c.len,c.nodup⟩
  .rw[j,fN M _ _ l];exact(c.snd p hp).imp u
  .rw[j,fN M _ _ l]at hp;refine c.cmp y p (Cl.imp (fun q g=>?_) hp);unfold ez at g;rw[if_neg f]at g;obtain⟨r,z,s⟩:=g;obtain⟨a,w,rfl⟩:=ie.1 s;have hle:=gz m.start.nodup c.sub;exact m.cmp f r (by rw[take_of_length_le (by omega)];exact(n r).2 z) a w
theorem lq.few (h:lq M x i ks)(a:ks.length<=2000):gq (Reach M (x.take i)):=so a (h.cmp a)
theorem lq.many (h:lq M x i ks)(a:2000<ks.length):¬gq (Reach M (x.take i)):=yW a h.nodup h.snd
end
theorem eO.lt {ts:List ByteArray}(h:eO ts):ts.Pairwise (fun a b=>bl a<bl b):=by
 have h1:=pairwise_map.1 h.1;have d:ts.Pairwise (fun a b=>bl a≠bl b):=pairwise_map.1 h.2;exact(h1.and d).imp (fun {a b} c=>by
  rcases List.le_iff_lt_or_eq.1 c.1 with q |q
  .exact q
  .exact absurd q c.2)
theorem eO.of {ts:List ByteArray}(h:ts.Pairwise (fun a b=>bl a<bl b)):eO ts:=
 ⟨pairwise_map.2 (h.imp (fun c=>List.le_of_lt c)),pairwise_map.2 (h.imp (fun {a b} c (e:bl a=bl b)=>List.lt_irrefl (bl b) (by rw[e]at c;exact c)))⟩
theorem BN {l:List ByteArray}{i:Nat}(h:eO l)(u:∀j t,j<i->l[j]?=some t->bl t<bl s)(v:∀t,l[i]?=some t->¬bl t<bl s/\t≠s):
  eO (l.take i++[s]++l.drop i)/\∀t,t∈l.take i++[s]++l.drop i↔t∈l\/t=s:=by
 have k:=h.lt;have n:∀t∈l.take i,bl t<bl s:=fun t c=>by
  obtain⟨j,f⟩:=getElem?_of_mem c;rw[getElem?_take]at f;split at f
  .exact u j t (by assumption) f
  .cases f
 have o:∀t∈l.drop i,bl s<bl t:=fun t c=>by
  cases d:l.drop i with
  |nil=>rw[d]at c;cases c
  |cons y r=>
   have w:l[i]?=some y:=by
    have:=congrArg (·[0]?) d;simpa using this
   obtain⟨q1,x⟩:=v y w;have g:bl s<bl y:=by
    rcases List.le_iff_lt_or_eq.1 (List.not_lt.1 q1)with q |q
    .exact q
    .exact absurd (cY q).symm x
   rw[d]at c;rcases mem_cons.1 c with rfl |c
   .exact g
   .have hp:=k.sublist (drop_sublist i l);rw[d]at hp;exact List.lt_trans g ((pairwise_cons.1 hp).1 t c)
 refine⟨eO.of ?_,fun t=>?_⟩
 .rw[append_assoc,singleton_append];refine pairwise_append.2 ⟨k.sublist (take_sublist i l),pairwise_cons.2 ⟨o,k.sublist (drop_sublist i l)⟩,fun a p b m=>?_⟩;rcases mem_cons.1 m with rfl |m
  .exact n a p
  .exact List.lt_trans (n a p) (o b m)
 .have e:t∈l↔t∈l.take i\/t∈l.drop i:=by rw[<-mem_append,take_append_drop]
  rw[append_assoc,mem_append,singleton_append,mem_cons,e];constructor
  .rintro(q |q |q)
   .exact .inl (.inl q)
   .exact .inr q
   .exact .inl (.inr q)
  .rintro((q |q) |q)
   .exact .inl q
   .exact .inr (.inr q)
   .exact .inr (.inl q)
def nN (l:List ByteArray)(s:ByteArray)(a:List ByteArray):Prop:=eO a/\(∀t,t∈a↔t∈l\/t=s)/\a.length<=l.length+1
theorem nN.same {l:List ByteArray}(h:eO l)(a:s∈l):nN l s l:=⟨h,fun t=>⟨.inl,fun q=>q.elim id (fun e=>by rw[e];exact a)⟩,by omega⟩
theorem nN.there {l:List ByteArray}{i:Nat}(h:eO l)(a:∀j t,j<i->l[j]?=some t->bl t<bl s)(c:∀t,l[i]?=some t->¬bl t<bl s/\t≠s):nN l s (l.take i++[s]++l.drop i):=by
 obtain⟨h1,b⟩:=BN h a c;refine⟨h1,b,?_⟩;simp only[length_append,length_take,length_drop,length_singleton];omega
def lp (M:cu)(ks:List Plc)(i:Nat)(out:List ByteArray):Prop:=eO out/\(∀t,t∈out↔∃p∈ks.take i,p.st∈M.final/\p.tx=t)/\out.length<=i
section
variable {M : cu} {ks : List Plc} {i : Nat} {out out' : List ByteArray} {p : Plc}
theorem lp.start:lp M ks 0 []:=⟨⟨by simp,by simp⟩,by simp,bW⟩
theorem lp.hit (h:lp M ks i out)(hp:ks[i]?=some p)(c:p.st∈M.final)(a:nN out p.tx out'):lp M ks (i+1) out':=by
 refine⟨a.1,fun t=>?_,by have:=a.2.2;have:=h.2.2;omega⟩;rw[a.2.1 t,h.2.1 t,take_add_one,hp];constructor
 .rintro(⟨q,b,r⟩ |rfl)
  .exact⟨q,mem_append.2 (.inl b),r⟩
  .exact⟨p,mem_append.2 (.inr (by simp)),c,rfl⟩
 .rintro⟨q,b,r⟩;rcases mem_append.1 b with b |b
  .exact .inl ⟨q,b,r⟩
  .obtain rfl:q=p:=by simpa using b
   exact .inr r.2.symm
theorem lp.aE (h:lp M ks i out)(hp:ks[i]?=some p)(b:p.st∉M.final):lp M ks (i+1) out:=by
 refine⟨h.1,fun t=>?_,by have:=h.2.2;omega⟩;rw[h.2.1 t,take_add_one,hp];constructor
 .rintro⟨q,a,r⟩;exact⟨q,mem_append.2 (.inl a),r⟩
 .rintro⟨q,a,r⟩;rcases mem_append.1 a with a |a
  .exact⟨q,a,r⟩
  .obtain rfl:q=p:=by simpa using a
   exact absurd r.1 b
theorem lp.done {x:ByteArray}(o:cN M)(f:x.size<=400)(g:¬eJ M)(k:∀j,j<x.size->gq (Reach M ((bl x).take j)))(a:lq M (bl x) x.size ks)(c:ks.length<=2000)(h:lp M ks i out)(l:ks.length<=i):et M (bl x) out 0:=by
 have n:(bl x).take x.size=bl x:=take_of_length_le (by rw[b9];exact bW);have b:=a.snd;have hm:=a.cmp c;rw[n]at b hm;refine .inr ⟨⟨o,by rw[b9];exact f⟩,.inr ⟨g,.inr ⟨fun j m=>?_,rfl,h.1,fun t=>?_⟩⟩⟩
 .rw[b9]at m;rcases Nat.lt_or_ge j x.size with q |q
  .exact k j q
  .obtain rfl:j=x.size:=by omega
   exact a.few c
 .rw[h.2.1 t,take_of_length_le l];constructor
  .rintro⟨p,hp,h1,rfl⟩;exact⟨fun d=>sN M _ d _ (b p hp),p.st,h1,b p hp⟩
  .rintro⟨_,s,h1,e⟩;exact⟨_,hm _ e,h1,rfl⟩
end
section
variable {b : cC} {i k f t : Nat} {A B : cr} {r : dj}
theorem gn (b:cC)(s:ByteArray):(dF b s= -1/\∀j A,¬b.no s j A)\/∃k A,b.no s k A/\k<b.ae.length/\dF b s=(k:Int):=by
 rcases mm (fun i=>∃A,b.no s i A) b.ae.length with ⟨h1,c⟩ |⟨k,h1,⟨A,a⟩,_,d⟩
 .exact .inl ⟨h1,fun j A a=>c j (List.getElem?_eq_some_iff.1 a.1).1 ⟨A,a⟩⟩
 .exact .inr ⟨k,A,a,h1,d⟩
theorem yy (h:dF b A.name=i){j:Nat}(g:b.ae[i]?=some A)(f:j<i){C:cr}(hC:b.ae[j]?=some C):C.name≠A.name:=fun e=>by
 rcases mm (fun i=>∃X,b.no A.name i X) b.ae.length with ⟨_,a⟩ |⟨k,h1,_,c,d⟩
 .exact a j (List.getElem?_eq_some_iff.1 hC).1 ⟨C,hC,e⟩
 .have:dF b A.name=(k:Int):=d;obtain rfl:k=i:=by omega
  exact c j f ⟨C,hC,e⟩
theorem oA (e:b.names.Nodup)(a:b.ae[i]?=some A):dF b A.name=i:=by
 rcases gn b A.name with ⟨_,c⟩ |⟨k,C,hC,_,d⟩
 .exact absurd ⟨a,rfl⟩ (c i A)
 .rw[d,(cC.aq e hC ⟨a,rfl⟩).1]
def tj (b:cC)(i:Nat):Prop:=∀j A,j<i->b.ae[j]?=some A->cG A/\dF b A.name=j
theorem tj.step (h:tj b i)(c:b.ae[i]?=some A)(h1:cG A)(a:dF b A.name=i):tj b (i+1):=fun j C d hC=>by
 rcases Nat.lt_succ_iff_lt_or_eq.1 d with q |rfl
 .exact h j C q hC
 .obtain rfl:=Option.some.inj (c.symm.trans hC);exact⟨h1,a⟩
theorem tj.done (h:tj b b.ae.length)(h1:1<=b.ae.length)(f:b.ae.length<=8):qt b:=by
 refine⟨h1,f,fun A g=>?_,?_⟩
 .obtain⟨j,c⟩:=getElem?_of_mem g;exact(h j A (List.getElem?_eq_some_iff.1 c).1 c).1
 .unfold cC.names Nodup;rw[pairwise_map];refine pairwise_iff_getElem.2 (fun x y i e d=>?_);have a:=getElem?_eq_getElem e;exact yy (h y _ e a).2 a d (getElem?_eq_getElem i)
theorem qt.self (h:qt b)(a:b.ae[i]?=some A):cG A/\dF b A.name=i:=⟨h.aI A (mem_of_getElem? a),oA h.names a⟩
theorem fV (b:cC)(A B:cr):(eo b A B= -1/\∀r∈b.rules,¬(r.src=A.name/\r.dst=B.name))\/∃k r,k<b.rules.length/\b.rules[k]?=some r/\r.src=A.name/\r.dst=B.name/\(∀j s,j<k->b.rules[j]?=some s->¬(s.src=A.name/\s.dst=B.name))/\eo b A B=(k:Int):=by
 rcases mm (fun i=>∃R,b.rules[i]?=some R/\R.src=A.name/\R.dst=B.name) b.rules.length with ⟨h1,c⟩ |⟨k,h1,⟨r,c,d,e⟩,f,g⟩
 .exact .inl ⟨h1,fun r l q=>by
   obtain⟨j,a⟩:=getElem?_of_mem l;exact c j (List.getElem?_eq_some_iff.1 a).1 ⟨r,a,q⟩⟩
 .exact .inr ⟨k,r,h1,c,d,e,fun j s a m q=>f j a ⟨s,m,q⟩,g⟩
theorem fO.nil:fO b (b.rules.take 0):=⟨by simp,by simp⟩
theorem fO.bM (h:fO b (b.rules.take i))(x:b.rules[i]?=some r)(g:b.no r.src f A)(n:b.no r.dst t B)(m:f≠t)(C:eo b A B=i)(y:dr r A B):fO b (b.rules.take (i+1)):=by
 have e:b.rules.take (i+1)=b.rules.take i++[r]:=by rw[take_add_one,x];rfl
 rw[e];refine⟨fun s a=>?_,?_⟩
 .rcases mem_append.1 a with a |a
  .exact h.rules s a
  .obtain rfl:=mem_singleton.1 a;exact⟨f,t,A,B,g,n,m,y⟩
 .rw[map_append];refine nodup_append.2 ⟨h.aV,by simp,fun p hp q w d=>?_⟩;obtain⟨s,a,rfl⟩:=mem_map.1 hp;obtain rfl:q=(r.src,r.dst):=by simpa using w
  obtain⟨j,c⟩:=getElem?_of_mem a;rw[getElem?_take]at c;split at c
  .rename_i l;rcases fV b A B with ⟨h1,_⟩ |⟨k,_,_,_,_,_,v,z⟩
   .omega
   .obtain rfl:k=i:=by omega
    have o:=(Prod.mk.inj d).1;have u:=(Prod.mk.inj d).2;exact v j s l c ⟨o.trans g.2.symm,u.trans n.2.symm⟩
  .cases c
theorem fO.at (h:fO b b.rules)(d:b.names.Nodup)(c:b.rules[i]?=some r):∃f t A B,b.no r.src f A/\b.no r.dst t B/\f≠t/\dr r A B/\dF b r.src=f/\dF b r.dst=t/\eo b A B=i:=by
 obtain⟨f,t,A,B,h1,a,j,l⟩:=h.rules r (mem_of_getElem? c);refine⟨f,t,A,B,h1,a,j,l,by rw[<-h1.2];exact oA d h1.1,by rw[<-a.2];exact oA d a.1,?_⟩;rcases fV b A B with ⟨_,q⟩ |⟨k,s,u,q1,n,o,_,p⟩
 .exact absurd ⟨h1.2.symm,a.2.symm⟩ (q r (mem_of_getElem? c))
 .rw[p];obtain⟨m,e⟩:=List.getElem?_eq_some_iff.1 c;obtain⟨hk,g⟩:=List.getElem?_eq_some_iff.1 q1;have:k=i:=by
   refine(getElem_inj (h₀:=by simpa using hk) (h₁:=by simpa using m) h.aV).1 ?_;rw[getElem_map,getElem_map,g,e,n,o,h1.2,a.2]
  rw[this]
def mC (b:cC)(i:Nat):Prop:=∀j A B,1<=j->j<i->b.ae[j]?=some A->b.ae[0]?=some B->∃r∈b.rules,r.src=A.name/\r.dst=B.name
theorem mC.start:mC b 1:=fun j A B h1 a=>by omega
theorem mC.step (h:mC b i)(e:b.ae[i]?=some A)(f:b.ae[0]?=some B)(m:0<=eo b A B):mC b (i+1):=fun j X Y h1 d a c=>by
 rcases Nat.lt_succ_iff_lt_or_eq.1 d with q |rfl
 .exact h j X Y h1 q a c
 .obtain rfl:=Option.some.inj (e.symm.trans a);obtain rfl:=Option.some.inj (f.symm.trans c);rcases fV b A B with ⟨q,_⟩ |⟨k,r,_,q1,g,l,_⟩
  .omega
  .exact⟨r,mem_of_getElem? q1,g,l⟩
theorem cU.a8 (h:cU b)(f:1<=i)(d:b.ae[i]?=some A)(e:b.ae[0]?=some B):0<=eo b A B:=by
 obtain⟨r,h1,a,c⟩:=h.base i A B f d e;rcases fV b A B with ⟨_,q⟩ |⟨k,_,_,_,_,_,_,q⟩
 .exact absurd ⟨a,c⟩ (q r h1)
 .omega
theorem AB (h:qt b)(a:fO b (b.rules.take i))(f:b.rules.length<=i)(d:mC b k)(hk:b.ae.length<=k):cU b:=by
 rw[take_of_length_le f]at a;exact⟨h,a,fun j A B h1 c e=>d j A B h1 (by have:=(List.getElem?_eq_some_iff.1 c).1;omega) c e⟩
end
end
end Go.Proofs.YtmhdgddjeadjjaaGreatDoor
