/- A part of the proof: what the claim reaches. -/
import Derived.Test.YtmhdgddjeadjjaaGreatDoorP34
namespace Go.Proofs.YtmhdgddjeadjjaaGreatDoor
open _root_.List Go.Lib _root_.Nat Go.World _root_.Int Go.Proofs.Tryz
variable {s t:ByteArray}{A:cr}{M:cu}
section
open Go.RowKit Go.Shelf Classical
theorem Eu (B b:Nat)(cs:List Value)(s:ByteArray)(w:World)(h:IsBuilder 108 5 B b cs w)(hlen:cs.length+s.size<=140737488355328)(a:B<=w.heap.size):
  Calls prog 60 #[.pointer (some ⟨b,0,none⟩),.string s] w fun e w'=>e= .returned (.tuple #[.int .i64 s.size,.nilIface])/\(BuilderAt 108 5 B b (.pointer (some ⟨b,0,none⟩)) (cs++strCells s) w'/\Below B w w'):=
 Any.Builder_WriteString { lays156 with } Builder_Extra_156 B b cs s w h hlen a
theorem tH (h:cG A)(z:Int):(txt A.bls z).length<=3:=by
 unfold txt;cases e:A.bls[z.toNat]? with
 |none=>simp
 |some l=>exact((fC h).len l (mem_of_getElem? e)).2
theorem byteCells_append (l m:List UInt8):byteCells (l++m)=byteCells l++byteCells m:=by simp[byteCells]
theorem byteCells_length (l:List UInt8):(byteCells l).length=l.length:=by simp[byteCells]
set_option maxRecDepth 100000
set_option maxHeartbeats 2000000
theorem DM (A:cr)(v:Value)(a:List Int)(R:Option Addr)(zc:Nat)(w:World)(Y:cH w w.heap.size v A)(hz:b8 w w.heap.size R (nums a))(O:cG A)(h1:1<=a.length)(ay:a.length<=24)(H:∀z∈a,0<=z/\z<A.letters.length):
  Calls prog 94 #[v,.slice R a.length zc] w fun e w'=>e= .returned (.tuple #[.string (bs (a.flatMap (txt A.bls))),.int .i64 0])/\Below w.heap.size w w':=by
 have D:=Y;obtain⟨C,lc,P,Q,rfl,hn,aA,aD,aB,hl,ah⟩:=Y;obtain⟨c,d⟩:∃c:World,c=w.alloc (.cells #[.string A.name,.slice C A.letters.length lc,.slice P A.small.length Q] 83):=⟨_,rfl⟩;have L:Below w.heap.size w c:=by rw[d];exact bX.alloc bW _
 have aC:c.heap.size=w.heap.size+1:=by rw[d];simp
 have Z:Blk c w.heap.size #[.string A.name,.slice C A.letters.length lc,.slice P A.small.length Q] 83:=by rw[d];exact Blk.new _ _ _
 have E:cH c c.heap.size (.agg #[.string A.name,.slice C A.letters.length lc,.slice P A.small.length Q]) A:=(D.below L bW).more (by omega);have N:=iX A _ c E;rw[decide_eq_true O]at N;have HQ:=bP N;have X:=bP O;have U:=bP H;clear N D E O H;go_enter func94,ntmps94;go_wp2_with fail;rw[<-d];refine HQ.out.mono ?_;rintro e b ⟨rfl,r⟩;have t:=L.trans (r.mono (by omega));have au:=r.size;go_wp2_with fail;obtain⟨p,f⟩:∃p:World,p=b.alloc (.cells #[.pointer none,.slice none 0 0] 108):=⟨_,rfl⟩;have F:IsBuilder 108 5 b.heap.size b.heap.size [] p:=by rw[f];exact fresh_isBuilder _ _ _
 have ab:Below b.heap.size b p:=by rw[f];exact bX.alloc bW _
 have aE:p.heap.size=b.heap.size+1:=by rw[f];simp
 rw[<-f];have HK:=bP (fun(wr:World) (j:Below b.heap.size p wr)=>have hx:=ab.trans j;have n:=t.trans (hx.mono (by omega));(show wr.cell? ⟨w.heap.size,1,none⟩=some (.slice C A.letters.length lc)/\b8 wr w.heap.size C (strs A.letters)/\b8 wr w.heap.size R (nums a)/\Below w.heap.size w wr from
  ⟨((Z.below r (by omega)).below hx (by omega)).cell 1,hl.below n bW,hz.below n bW,n⟩))
 have T:=bP F;clear d f F Z hl hz ah;go_loopw [24] (fun i wr=>∃k:Nat,k<=a.length/\i= .int .i64 k/\IsBuilder 108 5 b.heap.size b.heap.size (byteCells ((a.take k).flatMap (txt A.bls))) wr/\Below b.heap.size p wr) (fun i _=>a.length-(intOf i).toNat);case atStart=>exact⟨0,zero_le _,rfl,T.out,bX⟩
 case round=>
  obtain⟨k,hk,rfl,hI,j⟩:=hrel;have S:=bP hI;have aF:=j.size;obtain⟨x1,af,ak,n⟩:=HK.out wr j;clear hI;by_cases x:k<a.length
  .obtain⟨g,o,rfl,hg,hc⟩:=ak.nums (by omega);have c0:=hc k x;obtain⟨z,q⟩:∃z,a[k]=z:=⟨_,rfl⟩;rw[q]at c0;obtain⟨aG,aH⟩:=U.out z (by rw[<-q];exact getElem_mem x);obtain⟨g2,o2,rfl,az,G⟩:=af.strs (by omega);obtain⟨m,rfl⟩:∃m:Nat,z=(m:Int):=⟨z.toNat,by omega⟩;have I:m<A.letters.length:=by omega
   have c1:=G m I;obtain⟨s,y⟩:∃s,A.letters[m]=s:=⟨_,rfl⟩;rw[y]at c1;have B:txt A.bls (m:Int)=bl s:=by
    unfold txt cr.bls;rw[toNat_natCast,getElem?_map,getElem?_eq_getElem I,y];rfl
   have J:(a.take (k+1)).flatMap (txt A.bls)=(a.take k).flatMap (txt A.bls)++bl s:=by
    rw[take_succ_eq_append_getElem x,flatMap_append,q];simp[B]
   have hlen:((a.take k).flatMap (txt A.bls)).length<=1000:=by
    rw[length_flatMap];have:∀l:List Int,(l.map (fun z=>(txt A.bls z).length)).sum<=3*l.length:=fun l=>by
     induction l with
     |nil=>simp
     |cons z l ih=>have:=tH X.out z;rw[map_cons,sum_cons,length_cons];omega
    have:=this (a.take k);rw[length_take]at this;omega
   have ag:s.size<=3:=by rw[<-b9,<-B];exact tH X.out _
   have HW:=bP (Eu b.heap.size b.heap.size _ s wr S.out (by rw[byteCells_length];omega) (by omega));have V:=bP J;clear hc G B hlen ag J q y;go_wp2_with (go_at_call 60;refine HW.out.mono ?_;rintro e w3 ⟨rfl,h3,u⟩);exact⟨⟨k+1,by omega,by go_num,by rw[V.out,byteCells_append];exact .inr h3,j.trans u⟩,by simp[intOf];omega⟩
  .obtain rfl:k=a.length:=by omega
   have M:=Builder_String_any b.heap.size b.heap.size ((a.take a.length).flatMap (txt A.bls)) wr S.out (by omega);rw[take_length]at M;have HS:=bP M;clear M;go_wp2_with (go_at_call 61;refine HS.out.mono ?_;rintro e w3 ⟨rfl,u⟩);go_ret2;exact⟨rfl,n.trans (u.mono (by have:=t.size;omega))⟩
def vy (A:cr)(s:ByteArray)(w:World)(e:Ending)(w':World):Prop:=
 ∃(t:ByteArray) (err:Int),e= .returned (.tuple #[.string t,.int .i64 err])/\nk A s t err/\Below w.heap.size w w'
noncomputable def eu (A:cr)(z:Int):Int:=A.small[z.toNat]?.getD 0
theorem ub (A:cr)(t:List UInt8):jz A t=((rdL A.bls t).map (eu A)).flatMap (txt A.bls):=by
 unfold jz eu;rw[flatMap_map]
theorem DI (h:cG A){t:List UInt8}(f:(cB A.bls t).err=0):1<=(rdL A.bls t).length/\(rdL A.bls t).length<=24/\(∀z∈rdL A.bls t,0<=z/\z<A.letters.length)/\∀z∈(rdL A.bls t).map (eu A),0<=z/\z<A.letters.length:=by
 obtain⟨ls,q1,i,_,e,k⟩:=lM (fC h) f;have j:A.bls.length=A.letters.length:=by unfold cr.bls;rw[length_map]
 have b:∀z∈rdL A.bls t,0<=z/\z<A.letters.length:=fun z a=>by
  rw[e]at a;obtain⟨l,d,rfl⟩:=mem_map.1 a;have:=idxOf_lt_length_of_mem (i l d);omega
 have hlen:(rdL A.bls t).length=ls.length:=by rw[e];unfold ids;rw[length_map]
 refine⟨by rw[hlen];exact length_pos_iff.2 q1,by omega,b,fun z a=>?_⟩;obtain⟨y,g,rfl⟩:=mem_map.1 a;obtain⟨y0,y1⟩:=b y g;obtain⟨f1,f2,f3,f4,f5,f6,f7,f8⟩:=h.1;have c:y.toNat<A.small.length:=by omega
 unfold eu;rw[getElem?_eq_getElem c];exact f6 _ (getElem_mem c)
theorem Cw (A:cr)(v:Value)(s:ByteArray)(hs:s.size<=maxLen)(w:World)(hA:cH w w.heap.size v A):
  Calls prog 55 #[v,.string s] w (vy A s w):=by
 have G:=hA;obtain⟨R,lc,C,S,rfl,hn,aW,a6,aX,hl,af⟩:=hA;obtain⟨b,o⟩:∃b:World,b=w.alloc (.cells #[.string A.name,.slice R A.letters.length lc,.slice C A.small.length S] 83):=⟨_,rfl⟩;have ag:Below w.heap.size w b:=by rw[o];exact bX.alloc bW _
 have aZ:b.heap.size=w.heap.size+1:=by rw[o];simp
 have hB:Blk b w.heap.size #[.string A.name,.slice R A.letters.length lc,.slice C A.small.length S] 83:=by rw[o];exact Blk.new _ _ _
 have X:cH b b.heap.size (.agg #[.string A.name,.slice R A.letters.length lc,.slice C A.small.length S]) A:=(G.below ag bW).more (by omega);have HQ:=bP (lW A _ s hs b X);have HK:=bP (fun(wr:World) (j:Below b.heap.size b wr)=>have q:=ag.trans (j.mono (by omega));(show(wr.cell? ⟨w.heap.size,0,none⟩=some (.string A.name)/\wr.cell? ⟨w.heap.size,1,none⟩=some (.slice R A.letters.length lc)/\wr.cell? ⟨w.heap.size,2,none⟩=some (.slice C A.small.length S))/\b8 wr w.heap.size C (nums A.small)/\cH wr wr.heap.size (.agg #[.string A.name,.slice R A.letters.length lc,.slice C A.small.length S]) A/\Below w.heap.size w wr from
  have I:=hB.below j (by omega);⟨⟨I.cell 0,I.cell 1,I.cell 2⟩,af.below q bW,(G.below q bW).more q.size,q⟩))
 clear G X hB hl af;go_enter func55,ntmps55;go_wp2_with fail;rw[<-o];refine HQ.out.mono ?_;rintro e w1 ⟨v1,rfl,d,Y⟩;have al:=(HK.out w1 Y).2.2.2;by_cases t:cG A/\(cB A.bls (bl s)).err=0;case neg=>
  have ad:(dG A s).err≠0:=by
   unfold dG;split
   .rename_i B;exact fun e=>t ⟨B,e⟩
   .simp
  have d1:((dG A s).err != 0)=true:=by simpa using ad
  have aq:=bP t;clear t ad d;go_wp2_with fail;go_ret2;exact⟨_,_,rfl,.inr ⟨aq.out,rfl,rfl⟩,al⟩
 obtain⟨B,U⟩:=t;have e0:dG A s=cB A.bls (bl s):=by unfold dG;rw[if_pos B]
 obtain⟨V,z24,T,n⟩:=DI B U;have L:=ub A (bl s);obtain⟨a,P⟩:∃a,rdL A.bls (bl s)=a:=⟨_,rfl⟩;have Q:(cB A.bls (bl s)).letters=a:=P;rw[P]at V z24 T n L;rw[e0,Q]at d;rw[e0,U];have u:=d;obtain⟨aF,(⟨_,an⟩ |⟨g,cap,cur,rfl,hg,_⟩)⟩:=d
 .have:a=[]:=by simpa [nums]using an
  rw[this]at V;simp at V
 have D:=bS B U L;have Hz:=bQ T n;have ai:=bP u;clear B U e0 L P Q T n u aF;go_wp2_with fail;go_loopw [22] (fun i wr=>∃k:Nat,k<=a.length/\i= .int .i64 k/\wr.ownsRow b.heap.size 3 1 (.slice (some ⟨g,0,none⟩) a.length cap) a.length (nums ((a.map (eu A)).take k++a.drop k))/\Below b.heap.size b wr) (fun i _=>a.length-(intOf i).toNat);case atStart=>exact⟨0,zero_le _,rfl,by simpa using ai.out,Y⟩
 case round=>
  obtain⟨k,hk,rfl,c,j⟩:=hrel;have ar:=bP c;obtain⟨⟨a0,a1,a2⟩,aG,H,J⟩:=HK.out wr j;by_cases r:k<a.length
  .obtain⟨E,F,f,_,l⟩:=b8.ah c;obtain⟨aA,aE⟩:E=some ⟨g,0,none⟩/\F=cap:=by simp at f;exact⟨f.1.symm,f.2.symm⟩
   subst E F;obtain⟨b',o',eb,_,hc⟩:=l (by simp[nums];omega);obtain⟨aT,aY⟩:b'=g/\o'=0:=by simp at eb;exact⟨eb.1.symm,eb.2.symm⟩
   subst b' o';obtain⟨z,x⟩:∃z,a[k]=z:=⟨_,rfl⟩;have aa:(nums ((a.map (eu A)).take k++a.drop k))[k]?=some (.int .i64 z):=by
    unfold nums;rw[getElem?_map,getElem?_append_right (by simp;omega)];simp[length_take,Nat.min_eq_left hk,r,x]
   have c0:=hc k _ aa;rw[Nat.zero_add]at c0;obtain⟨a8,ba⟩:=Hz.out.1 z (by rw[<-x];exact getElem_mem r);obtain⟨m,rfl⟩:∃m:Nat,z=(m:Int):=⟨z.toNat,by omega⟩;have a7:A.small.length=A.letters.length:=D.out.1.1.2.2.2.1;have ab:m<A.small.length:=by omega
   obtain⟨g2,o2,rfl,aV,Z⟩:=aG.nums (by omega);have c1:=Z m ab;obtain⟨y,O⟩:∃y,A.small[m]=y:=⟨_,rfl⟩;rw[O]at c1;have aU:wr.frozen? ⟨g,k,none⟩=false:=by
    obtain⟨_,(⟨e,_⟩ |⟨g3,aK,aL,e,_,hh,_⟩)⟩:=c
    .cases e
    .simp at e;obtain⟨rfl,_⟩:=e;simp[frozen?,hh]
   have N:=(c.stored k (.int .i64 y)).1;have ae:(nums ((a.map (eu A)).take k++a.drop k)).set k (.int .i64 y)=nums ((a.map (eu A)).take (k+1)++a.drop (k+1)):=by
    have hy:eu A a[k]=y:=by rw[x];unfold eu;rw[toNat_natCast,getElem?_eq_getElem ab,O];rfl
    unfold nums;rw[<-map_set];congr 1;rw[set_append_right _ _ (by simp;omega)];have e1:k-((a.map (eu A)).take k).length=0:=by simp;omega
    rw[e1,drop_eq_getElem_cons r,set_cons_zero,take_succ_eq_append_getElem (by simpa using r),getElem_map,hy,append_assoc];rfl
   rw[ae]at N;have au:=bP N;have aC:Below b.heap.size b (wr.setCell ⟨g,k,none⟩ (.int .i64 y)):=j.setCell (p:=⟨g,k,none⟩) hg _;clear hc Z aa N ae c l x O H;go_wp2_with fail;exact⟨⟨k+1,by omega,by go_num,au.out,aC⟩,by simp[intOf];omega⟩
  .obtain rfl:k=a.length:=by omega
   have M:wr.ownsRow b.heap.size 3 1 (.slice (some ⟨g,0,none⟩) (a.map (eu A)).length cap) (a.map (eu A)).length (nums (a.map (eu A))):=by
    have:=ar.out;rw[drop_length,append_nil,take_of_length_le (by simp)]at this;simpa using this
   obtain⟨E,F,f,_,l⟩:=b8.ah M;obtain⟨aA,aE⟩:E=some ⟨g,0,none⟩/\F=cap:=by simp at f;exact⟨f.1.symm,f.2.symm⟩
   subst E F;have hJ:=DM A _ (a.map (eu A)) _ cap wr H l D.out.1 (by simpa using V) (by simpa using z24) Hz.out.2;rw[<-D.out.2.2,length_map]at hJ;have HJ:=bP hJ;clear hJ l M c f H;go_wp2_with (go_at_call 94;refine HJ.out.mono ?_;rintro e w3 ⟨rfl,aB⟩);go_ret2;exact⟨_,_,rfl,.inl ⟨D.out.1,D.out.2.1,cZ _,rfl⟩,J.trans (aB.mono J.size)⟩
end
section
open Go Classical
def behind (t:ByteArray)(p:Plc):Plc:=⟨if p.st=0 then 1 else p.st,t++p.tx⟩
theorem CM {S:Plc->Prop}{L:Nat}(f:∀q,S q->q.tx.size<=L){p:Plc}(hp:Cl M S p):∀n,L<n->n<=p.tx.size->∃q,Cl M S q/\q.tx.size=n:=by
 induction hp with
 |base d=>intro n h1 b;have:=f _ d;omega
 | @more p q h c g=>
  intro n h1 b;by_cases e:n=q.tx.size
  .exact⟨q,.more h c,e.symm⟩
  .obtain⟨a,_,_,_,rfl⟩:=c;have:=jn p.tx a.out;refine g n h1 ?_;have i:n<=(dM p.tx a.out).size:=b;have e':n≠(dM p.tx a.out).size:=e;omega
theorem yJ {S:Plc->Prop}{L:Nat}(b:∀q,S q->q.tx.size<=L)(c:gq (Cl M S)){p:Plc}(hp:Cl M S p):p.tx.size<=L+2000:=by
 obtain⟨ks,hk,hm⟩:=c;by_cases h:p.tx.size<=L
 .omega
 have h1:∀n∈range' (L+1) (p.tx.size-L),n∈ks.map (fun q=>q.tx.size):=fun n d=>by
  rw[mem_range'_1]at d;obtain⟨q,f,e⟩:=CM b hp n (by omega) (by omega);exact mem_map.2 ⟨q,hm q f,e⟩
 have a:=gz nodup_range' h1;rw[length_map,length_range']at a;omega
set_option maxRecDepth 100000
theorem Ag (k:Nat):∀(l:List UInt8),l.length=k->(∀i,i<=l.length->gq (Reach M (l.take i)))->∀p,Reach M l p->p.tx.size<=(k+1)*2001:=by
 induction k with
 |zero=>
  intro l g f p hp;obtain rfl:=length_eq_zero_iff.1 g;have u:=f 0 bW;rw[take_nil,iF]at u;rw[iF]at hp;have:=yJ (L:=0) (fun q d=>by subst d;exact bW) u hp;omega
 |succ k v=>
  intro l g f p hp;have r:l≠[]:=by intro e;subst e;simp at g
  obtain⟨n,b,rfl⟩:∃n b,l=n++[b]:=⟨l.dropLast,l.getLast r,(dropLast_concat_getLast r).symm⟩;have o:n.length=k:=by simpa using g
  by_cases s:b=0
  .subst s;unfold Reach at hp;simp at hp
  .have c:=f (n++[b]).length bW;rw[take_length,fN _ _ _ s]at c;rw[fN _ _ _ s]at hp;have j:=v n o (fun i w=>by
    have:=f i (by simp;omega);rwa [take_append_of_le_length w]at this)
   have:=yJ (L:=(k+1)*2001+1) (fun q d=>by
    unfold ez at d;split at d
    .exact le_succ_of_le (j q d)
    .obtain⟨t,h1,a,_,_,_,rfl⟩:=d;have x:=j t h1;have y:=jn t.tx a.out;show(dM t.tx a.out).size<=_;omega) c hp
   clear c j v f g o;rw[succ_mul (k+1) 2001];generalize (k+1)*2001=m at this⊢;omega
theorem p7 {x:List UInt8}{ts:List ByteArray}{err:Int}(h:et M x ts err)(a:t∈ts):t.size<=1000000:=by
 rcases h with ⟨_,h,_⟩ |⟨⟨_,f⟩,⟨_,h,_⟩ |⟨_,⟨_,h,_⟩ |⟨b,_,_,h⟩⟩⟩
 .subst h;simp at a
 .subst h;simp at a
 .subst h;simp at a
 .obtain⟨_,s,_,c⟩:=(h t).1 a;have h1:=Ag x.length x rfl b _ c;have d:(x.length+1)*2001<=401*2001:=mul_le_mul_right _ (by omega);have e:t.size<=(x.length+1)*2001:=h1;omega
end
section
open Go.RowKit Classical
def qx (b:cC)(x y:Int)(w:World)(e:Ending)(w':World):Prop:=
 ∃v M err,e= .returned (.tuple #[v,.int .i64 err])/\dx w' w'.heap.size v M/\fK b x y M err/\Below w.heap.size w w'
theorem lQ (w:World)(B:Nat):dx w B (.agg #[.int .i64 0,.int .i64 0,.slice none 0 0,.slice none 0 0]) ff:=
 ⟨none,0,none,0,rfl,zero_le _,zero_le _,fun h=>by simp[ff,nums]at h,fun h=>by simp[ff,flat]at h⟩
theorem lk {w:World}{b:Nat}{t:TypeId}(a:Blk w b #[.int .i64 0,.int .i64 0,.slice none 0 0,.slice none 0 0] t){W:World}
  (c:W=(((w.setCell ⟨b,0,none⟩ (.int .i64 0)).setCell ⟨b,1,none⟩ (.int .i64 0)).setCell ⟨b,2,none⟩ (.slice none 0 0)).setCell ⟨b,3,none⟩ (.slice none 0 0)):Blk W b #[.int .i64 0,.int .i64 0,.slice none 0 0,.slice none 0 0] t:=by
 subst c;have:=(((a.aj 0 (.int .i64 0)).aj 1 (.int .i64 0)).aj 2 (.slice none 0 0)).aj 3 (.slice none 0 0);simpa using this
theorem dh {w c:World}(h:Below w.heap.size w c){b:Nat}(a:w.heap.size<=b)(u0 u1 u2 u3:Value):Below w.heap.size w ((((c.setCell ⟨b,0,none⟩ u0).setCell ⟨b,1,none⟩ u1).setCell ⟨b,2,none⟩ u2).setCell ⟨b,3,none⟩ u3):=
 (((h.setCell (p:=⟨b,0,none⟩) a _).setCell (p:=⟨b,1,none⟩) a _).setCell (p:=⟨b,2,none⟩) a _).setCell (p:=⟨b,3,none⟩) a _
theorem lg {b:cC}(f:cU b){i:Nat}(h1:1<=i)(d:i<b.ae.length):∃r,gu b i 0 r:=by
 have a:b.ae[0]?=some b.ae[0]:=getElem?_eq_getElem (by omega);have c:b.ae[i]?=some b.ae[i]:=getElem?_eq_getElem d;obtain⟨r,e,q1,g⟩:=f.base i _ _ h1 c a;exact⟨r,e,_,_,⟨c,q1.symm⟩,⟨a,g.symm⟩⟩
set_option maxRecDepth 100000
set_option maxHeartbeats 2000000
theorem vC (b:cC)(v:Value)(x:Int)(w:World)(h:dm w w.heap.size v b):
  Calls prog 54 #[v,.int .i64 x,.int .i64 0] w (qx b x 0 w):=by
 have hB:=h;obtain⟨a,c,Y,Z,rfl,hn,hr,hA,hR⟩:=h;unfold maxLen at hn;obtain⟨p,n⟩:∃p:World,p=(w.alloc (.cells #[.slice a b.ae.length c,.slice Y b.rules.length Z] 25)).alloc (.cells #[.int .i64 0,.int .i64 0,.slice none 0 0,.slice none 0 0] 98):=⟨_,rfl⟩;have ao:Below w.heap.size w p:=by rw[n];exact(bX.alloc bW _).alloc (by simp) _
 have aX:p.heap.size=w.heap.size+2:=by rw[n];simp
 have O:Blk p w.heap.size #[.slice a b.ae.length c,.slice Y b.rules.length Z] 25:=by rw[n];exact(Blk.new _ _ _).alloc _
 have aC:Blk p (w.heap.size+1) #[.int .i64 0,.int .i64 0,.slice none 0 0,.slice none 0 0] 98:=by
  rw[n];have:=Blk.new (w.alloc (.cells #[.slice a b.ae.length c,.slice Y b.rules.length Z] 25)) #[.int .i64 0,.int .i64 0,.slice none 0 0,.slice none 0 0] 98;simpa using this
 have HO:=bP (ur b _ p ((hB.below ao bW).more (by omega)));have HA:=bP hA;clear hB hA hR;go_enter func54,ntmps54;go_upto_region 1 with (fail);rw[<-n];clear n;have x0:p.cell? ⟨w.heap.size,0,none⟩=some (.slice a b.ae.length c):=O.cell 0;have x1:p.cell? ⟨w.heap.size,1,none⟩=some (.slice Y b.rules.length Z):=O.cell 1;go_wp2_with fail;refine HO.out.mono ?_;rintro e k ⟨ab,D⟩;have g:=ao.trans (D.mono (by omega));have au:=D.size;clear x0 x1;have B:=bP (fun(S:¬(cU b/\0<=x/\x<b.ae.length))=>(show fK b x 0 ff 1 from .inl ⟨fun q=>S ⟨q.1,q.2.1,q.2.2.1⟩,rfl,rfl⟩));have P:=O.below D (by omega);have d:=aC.below D (by omega);have x0:k.cell? ⟨w.heap.size,0,none⟩=some (.slice a b.ae.length c):=P.cell 0;have r0:k.cell? ⟨w.heap.size+1,0,none⟩=some (.int .i64 0):=d.cell 0;have r1:k.cell? ⟨w.heap.size+1,1,none⟩=some (.int .i64 0):=d.cell 1;have r2:k.cell? ⟨w.heap.size+1,2,none⟩=some (.slice none 0 0):=d.cell 2;have r3:k.cell? ⟨w.heap.size+1,3,none⟩=some (.slice none 0 0):=d.cell 3;have f0:=d.frozen 0;have f1:=d.frozen 1;have f2:=d.frozen 2;have f3:=d.frozen 3;have aT:w.heap.size<k.heap.size:=by omega
 have aU:w.heap.size+1<k.heap.size:=by omega
 rcases ab with ⟨m,rfl⟩ |⟨m,J,es,rfl,aV,I,l⟩
 .have U:=bP (B.out (fun q=>m q.1));clear m;have G:=bP ((lk d rfl).alloc (.cells #[.map none] 131));go_wp2_with fail;have hk:=G.out;have m0:=hk.cell 0;have m1:=hk.cell 1;have m2:=hk.cell 2;have m3:=hk.cell 3;simp only[getElem?_toArray,getElem?_cons_zero,getElem?_cons_succ]at m0 m1 m2 m3;refine bodyPost_ret (v:= .tuple #[.agg #[.int .i64 0,.int .i64 0,.slice none 0 0,.slice none 0 0],.int .i64 1]) (by simp[results,results54,go_sem,m0,m1,m2,m3]) rfl ?_;exact⟨_,ff,1,rfl,lQ _ _,U.out,(dh g (b:=w.heap.size+1) (by omega) _ _ _ _).alloc (dh g (b:=w.heap.size+1) (by omega) _ _ _ _).size _⟩
 have N:0<=x\/x<0:=by omega
 by_cases hx:0<=x/\x<b.ae.length;case neg=>
  have U:=bP (B.out (fun q=>hx q.2));have G:=bP ((lk d rfl).alloc (.cells #[.map (some J)] 131));clear m I l;by_cases aE:x<0
  .clear hx N;go_wp2_with fail;have hk:=G.out;have m0:=hk.cell 0;have m1:=hk.cell 1;have m2:=hk.cell 2;have m3:=hk.cell 3;simp only[getElem?_toArray,getElem?_cons_zero,getElem?_cons_succ]at m0 m1 m2 m3;refine bodyPost_ret (v:= .tuple #[.agg #[.int .i64 0,.int .i64 0,.slice none 0 0,.slice none 0 0],.int .i64 1]) (by simp[results,results54,go_sem,m0,m1,m2,m3]) rfl ?_;exact⟨_,ff,1,rfl,lQ _ _,U.out,(dh g (b:=w.heap.size+1) (by omega) _ _ _ _).alloc (dh g (b:=w.heap.size+1) (by omega) _ _ _ _).size _⟩
  .have aS:(b.ae.length:Int)<=x:=by omega
   have aW:0<=x:=by omega
   clear hx N aE;go_wp2_with fail;have hk:=G.out;have m0:=hk.cell 0;have m1:=hk.cell 1;have m2:=hk.cell 2;have m3:=hk.cell 3;simp only[getElem?_toArray,getElem?_cons_zero,getElem?_cons_succ]at m0 m1 m2 m3;refine bodyPost_ret (v:= .tuple #[.agg #[.int .i64 0,.int .i64 0,.slice none 0 0,.slice none 0 0],.int .i64 1]) (by simp[results,results54,go_sem,m0,m1,m2,m3]) rfl ?_;exact⟨_,ff,1,rfl,lQ _ _,U.out,(dh g (b:=w.heap.size+1) (by omega) _ _ _ _).alloc (dh g (b:=w.heap.size+1) (by omega) _ _ _ _).size _⟩
 obtain⟨i,rfl⟩:∃i:Nat,x=(i:Int):=⟨x.toNat,by omega⟩;have E:i<b.ae.length:=by omega
 have C:0<b.ae.length:=by omega
 clear hx N B;obtain⟨s0,s1,ra,rn,rc,t3,Q,an⟩:=pP es ((i:Int),0) l.bz;have T:t3=decide (1<=i):=by
  rcases an with ⟨rfl,aB⟩ |⟨rfl,S⟩
  .obtain⟨r,hr,A,A',q1,q2,_⟩:=l.has (i:=i) (j:=0) aB;have:=(m.aL ⟨hr,A,A',q1,q2⟩ q1.1 q2.1).1;symm;rw[decide_eq_true_iff];omega
  .symm;rw[decide_eq_false_iff_not];intro h1;obtain⟨r,hr,A,A',q1,q2⟩:=lg m h1 E;exact l.bg m.scr.names (i:=i) (j:=0) S hr q1 q2
 have t:i≠0->∃r,gu b i 0 r:=fun h=>lg m (by omega) E;have F:∀M,fg b i 0 M->fK b (i:Int) 0 M 0:=fun M I=> .inr ⟨m,i,0,rfl,rfl,E,C,.inl ⟨by
  by_cases h:i=0
  .exact .inl h
  .exact .inr (t h),I,rfl⟩⟩
 have V:=bP F;have X:=bP t;have o:=bS l I m;have e3:=Q (k.alloc (.cells #[.map (some J)] 131)) J (I.alloc _);clear F t l Q an m I;by_cases z:1<=i;all_goals
  first
   |(have ht:t3=true:=by rw[T];exact decide_eq_true z)
   |(have ht:t3=false:=by rw[T];exact decide_eq_false z)
  subst ht;have hd:((i:Int)==0)=decide (i=0):=by rw[Bool.eq_iff_iff];simp
  have L:(decide (i=0))=!(decide (1<=i)):=by rw[Bool.eq_iff_iff];simp
  first
   |(rw[L,decide_eq_true z]at hd)
   |(rw[L,decide_eq_false z]at hd)
  have aZ:decide ((i:Int)<0)=false:=by simp
  have a1:decide (b.ae.length<=i)=false:=bY;have a6:decide (b.ae=[])=false:=decide_eq_false (fun e=>by rw[e]at C;simp at C);clear T z L;go_upto_region 7 with (fail);obtain⟨H,u⟩:∃H:World,H=(k.alloc (.cells #[.map (some J)] 131)).alloc (.cells #[.string s0,.string s1,.slice ra rn rc] 91):=⟨_,rfl⟩;rw[<-u];have y:Below k.heap.size k H:=by rw[u];exact(bX.alloc bW _).alloc (by simp) _
  have aY:H.heap.size=k.heap.size+2:=by rw[u];simp
  have aD:Blk H k.heap.size #[.map (some J)] 131:=by rw[u];exact(Blk.new _ _ _).alloc _
  clear u x0 r0 r1 r2 r3 f0 f1 f2 f3 e3;have s:=g.trans (y.mono g.size);have hC:=bP (Da b i 0 w.heap.size k.heap.size J a c es H o.out.2.2 ((P.below y (by omega)).cell 0) (by omega) ((HA.out.below s bW).more s.size) (aD.cell 0) (by omega) (ch.below o.out.2.1 y (ch.lt o.out.2.1)) ((o.out.1.below y au).more (by omega)) E C X.out);have ar:=d.below y (by omega);go_wp2_with fail;refine hC.out.mono ?_;rintro e w4 ⟨v4,M,rfl,al,R,ak⟩;have aj:=al;obtain⟨fa,fc,aa,ac,rfl, -, -, -, -⟩:=al;have f:=ar.below ak (by omega);have G:=bP (fun W hW=>fS f aj R.final (W:=W) hW);have r0:w4.cell? ⟨w.heap.size+1,0,none⟩=some (.int .i64 0):=f.cell 0;have r1:w4.cell? ⟨w.heap.size+1,1,none⟩=some (.int .i64 0):=f.cell 1;have r2:w4.cell? ⟨w.heap.size+1,2,none⟩=some (.slice none 0 0):=f.cell 2;have r3:w4.cell? ⟨w.heap.size+1,3,none⟩=some (.slice none 0 0):=f.cell 3;have f0:=f.frozen 0;have f1:=f.frozen 1;have f2:=f.frozen 2;have f3:=f.frozen 3;have aq:=s.trans (ak.mono s.size);have ax:=bP (V.out M R);clear f aj R;go_wp2_with fail;obtain⟨hk,hm⟩:=G.out _ rfl;have m0:=hk.cell 0;have m1:=hk.cell 1;have m2:=hk.cell 2;have m3:=hk.cell 3;simp only[getElem?_toArray,getElem?_cons_zero,getElem?_cons_succ]at m0 m1 m2 m3;refine bodyPost_ret (v:= .tuple #[.agg #[.int .i64 M.ag,.int .i64 M.start,.slice fa M.final.length fc,.slice aa M.arcs.length ac],.int .i64 0]) (by simp[results,results54,go_sem,m0,m1,m2,m3]) rfl ?_;exact⟨_,M,0,rfl,hm.more (by simp),ax.out,dh aq (b:=w.heap.size+1) (by omega) _ _ _ _⟩
end
section
open Go Classical
theorem xg {b:cC}{lang:ByteArray}{i:Int}{t:List UInt8}(j:cU b)(n:df (bl lang)=true)(m:0<=i/\i<b.ae.length)(c:b.ae[i.toNat]?=some A):
  dB b lang i t↔(∀p∈cA t,(cB A.bls p).err=0)/\1<=(cA t).length/\(cA t).length<=6/\dO (cA t)=t:=by
 have o:=j.scr.aI A (mem_of_getElem? c);constructor
 .intro h;obtain⟨_,a,d,f⟩:=h.parts c;exact⟨fun p hp=>h.word A c p (by rw[<-a];exact hp),d,f,by rw[a];exact sw t⟩
 .rintro⟨h1,a,d,f⟩;have hp:partsOf t=cA t:=by
   have:=pU (l:=cA t) (fun e=>by rw[e]at a;simp at a) (fun p hp=>(oM o (h1 p hp)).1);rw[f]at this;exact this
  refine⟨j,n,m,by rw[hp];exact d,fun q g p k=>?_⟩;obtain rfl:=Option.some.inj (c.symm.trans g);exact h1 p (by rw[<-hp];exact k)
def j8 (Wr:List UInt8->ByteArray->Int->Prop)(ws:List (List UInt8))(k:Nat)(outs:List ByteArray):Prop:=outs.length=ws.length/\∀(j:Nat) (s:ByteArray),outs[j]?=some s->(k<=j->ws[j]?=some (bl s))/\(j<k->∀w,ws[j]?=some w->Wr w s 0)
section
variable {Wr : List UInt8 → ByteArray → Int → Prop} {ws : List (List UInt8)} {k : Nat} {outs : List ByteArray}
theorem j8.start {b:List ByteArray}(h:b.map bl=ws):j8 Wr ws 0 b:=⟨by rw[<-h,length_map],fun j s a=>⟨fun _=>by rw[<-h,getElem?_map,a];rfl,fun a=>absurd a (not_lt_zero _)⟩⟩
theorem j8.at (h:j8 Wr ws k outs)(a:outs[k]?=some s):ws[k]?=some (bl s):=(h.2 k s a).1 bW
theorem j8.step (h:j8 Wr ws k outs)(b:outs[k]?=some s)(hw:Wr (bl s) t 0):j8 Wr ws (k+1) (outs.set k t):=by
 refine⟨by rw[length_set];exact h.1,fun j u a=>?_⟩;by_cases e:j=k
 .subst e;rw[getElem?_set_self (List.getElem?_eq_some_iff.1 b).1]at a;obtain rfl:=Option.some.inj a;exact⟨fun q=>by omega,fun _ w q=>by rw[h.at b]at q;rw[<-Option.some.inj q];exact hw⟩
 .rw[getElem?_set_ne (Ne.symm e)]at a;obtain⟨q1,c⟩:=h.2 j u a;exact⟨fun q=>q1 (by omega),fun q=>c (by omega)⟩
theorem j8.bad (h:j8 Wr ws k outs){e:Int}(f:outs[k]?=some s)(he:e≠0)(hw:Wr (bl s) t e):lU Wr ws [] e:=by
 refine .inr ⟨he,rfl,k,bl s,t,h.at f,fun j v d c=>?_,hw⟩;obtain⟨a,_⟩:=List.getElem?_eq_some_iff.1 c;have b:j<outs.length:=by rw[h.1];exact a
 exact⟨outs[j],(h.2 j _ (getElem?_eq_getElem b)).2 d v c⟩
theorem j8.done (h:j8 Wr ws k outs)(hk:ws.length<=k):lU Wr ws outs 0:=
 .inl ⟨rfl,h.1,fun j w s hw a=>(h.2 j s a).2 (by have:=(List.getElem?_eq_some_iff.1 hw).1;omega) w hw⟩
end
end
end Go.Proofs.YtmhdgddjeadjjaaGreatDoor
