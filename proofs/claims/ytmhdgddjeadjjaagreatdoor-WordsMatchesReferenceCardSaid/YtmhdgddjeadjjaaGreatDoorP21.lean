/- A part of the proof: what the claim reaches. -/
import Derived.Test.YtmhdgddjeadjjaaGreatDoorP20
namespace Go.Proofs.YtmhdgddjeadjjaaGreatDoor
open _root_.List Go.Lib _root_.Nat Go.World _root_.Int Go.Proofs.Tryz
variable {es:List (Value × Value)}{B i j:Nat}{w w':World}{b:cC}{A A':cr}{R r:dj}
section
open Go.RowKit Classical
open Go.Shelf
def pT (r:Nat):Bool:=decide (r<33)||decide (126<r)||(r==34)
theorem wT (s:ByteArray)(i:Nat)(a:i<s.size):s.get! i=s[i]:=by
 simp[ByteArray.get!,getElem!_pos,a];rfl
theorem sh (s:ByteArray)(i:Nat)(b:i<s.size)(h:(s[i]).toNat<128):Utf8.decode s i=((s[i]).toNat,1):=by
 have a:s.get! i=s[i]:=wT s i b;unfold Utf8.decode;simp only[Nat.add_zero,a,if_pos h]
theorem decode_high (s:ByteArray)(i:Nat)(c:i<s.size)(h:¬(s[i]).toNat<128):128<=(Utf8.decode s i).1:=by
 have b:s.get! i=s[i]:=wT s i c;unfold Utf8.decode;simp only[Nat.add_zero,b,if_neg h,Utf8.runeError];split
 .split
  .simpa using ‹_›
  .decide
 .split
  .split
   .rename_i a;simp at a;show 128<=_;omega
   .decide
  .split
   .split
    .rename_i a;simp at a;show 128<=_;omega
    .decide
   .decide
theorem Eb (c:UInt8)(h:c.toNat<128):pT c.toNat=!eV c:=by
 unfold pT eV;generalize c.toNat=n at *;rw[Bool.eq_iff_iff];simp only[Bool.or_eq_true,decide_eq_true_eq,beq_iff_eq,Bool.not_eq_true',Bool.and_eq_false_iff,decide_eq_false_iff_not,bne_eq_false_iff_eq];omega
theorem yu (c:UInt8)(h:¬c.toNat<128):eV c=false:=by
 unfold eV;simp;intros;omega
theorem yS (s:ByteArray):∀(f pos:Nat),s.size-pos<=f->(0<=idxFuncFrom pT true s f pos↔∃j,∃h:j<s.size,pos<=j/\eV s[j]=false)
 |0,pos,g=>by
  constructor
  .intro h;rw[idxFuncFrom]at h;exact absurd h (by decide)
  .rintro⟨j,h,h1,_⟩;omega
 |f+1,pos,g=>by
  unfold idxFuncFrom;by_cases hp:pos<s.size
  .rw[if_pos hp];by_cases a:(s[pos]).toNat<128
   .rw[sh s pos hp a];simp only;rw[Eb _ a];by_cases c:eV s[pos]=true
    .rw[c,if_neg (by simp),yS s f (pos+1) (by omega)];constructor
     .rintro⟨j,h,h1,b⟩;exact⟨j,h,by omega,b⟩
     .rintro⟨j,h,h1,b⟩;refine⟨j,h,?_,b⟩;rcases Nat.lt_or_ge pos j with e |e
      .omega
      .have:j=pos:=by omega
       subst this;rw[c]at b;cases b
    .have d:eV s[pos]=false:=by simpa using c
     rw[d,if_pos (by simp)];exact⟨fun _=>⟨pos,hp,bW,d⟩,fun _=>by omega⟩
   .have i:=decode_high s pos hp a;rw[if_pos (by unfold pT;simp;omega)];exact⟨fun _=>⟨pos,hp,bW,yu _ a⟩,fun _=>by omega⟩
  .rw[if_neg hp];constructor
   .intro h;exact absurd h (by decide)
   .rintro⟨j,h,h1,_⟩;omega
theorem vX (s:ByteArray):decide (0<=idxFunc pT true s)=!iq (bl s):=by
 have h:=yS s s.size 0 (by omega);unfold idxFunc;rw[Bool.eq_iff_iff,decide_eq_true_eq,h];simp only[iq,Bool.not_eq_true',all_eq_false];constructor
 .rintro⟨j,a,_,hp⟩;exact⟨s[j],mem_of_getElem? (dU s j a),by rw[hp];simp⟩
 .rintro⟨c,d,hp⟩;obtain⟨j,a⟩:=getElem?_of_mem d;have b:j<s.size:=by rw[<-b9];exact(List.getElem?_eq_some_iff.1 a).1
  rw[dU s j b]at a;obtain rfl:=Option.some.inj a;exact⟨j,b,zero_le _,by simpa using hp⟩
set_option maxHeartbeats 4000000
theorem Ac (r:Nat)(w:World):
  Calls prog 265 #[.int .i32 (r:Int)] w fun e w'=>e= .returned (.bool (pT r))/\w'=w:=by
 go_enter func265,ntmps265;go_wp2;all_goals (go_ret;refine⟨cX ?_,rfl⟩;unfold pT;rw[Bool.eq_iff_iff];simp[*];try omega)
set_option maxRecDepth 100000
theorem jJ (s:ByteArray)(a b:Nat)(w:World):
  Calls prog 253 #[.string s,.int .i64 a,.int .i64 b] w fun e w'=>e= .returned (.bool (decide (eH s a b)))/\Below w.heap.size w w':=by
 have hC:=fun w=>strings_ContainsFunc 265 #[] (enters_of func265 (by kernel_rfl) rfl) pT s w (fun W x _=>(Ac x W).mono fun e w' h=>⟨h.1,0,by rw[h.2];rfl⟩);rw[vX]at hC;have d:=bP hC;clear hC;go_enter func253,ntmps253;by_cases h1:a<=s.size
 .by_cases c:s.size<=b
  .have g:decide ((a:Int)<=(s.size:Int))=true:=by simpa using h1
   have i:decide ((s.size:Int)<=(b:Int))=true:=by simpa using c
   go_wp2_with fail;refine(d.out _).mono ?_;rintro e j ⟨rfl,f⟩;go_wp2_with fail;all_goals
    go_ret;refine⟨fy ?_,f⟩;simp[eH,h1,c]
  .go_wp2_with fail;go_ret;exact⟨cj (fun h=>c h.2.2),bX⟩
 .go_wp2_with fail;go_ret;exact⟨cj (fun h=>h1 h.2.1),bX⟩
end
section
open Go.RowKit Classical
theorem p6 {l:List Rul}{x:Rul}:fA x∈l.map fA↔x∈l:=by
 rw[mem_map];exact⟨fun⟨y,a,e⟩=>uC e▸a,fun h=>⟨x,h,rfl⟩⟩
set_option maxRecDepth 100000
set_option maxHeartbeats 4000000
theorem zN (R:dj)(v:Value)(w:World)(h:dY w w.heap.size v R):
  Calls prog 223 #[v] w fun e w'=>e= .returned (.bool (decide (fD R)))/\Below w.heap.size w w':=by
 have hR:=h;obtain⟨la,lc,rfl,bt,bu,aQ,bI,hl⟩:=h;have br:= @run_makeMap prog;have bC:=aQ;unfold maxLen at aQ;go_enter func223,ntmps223;have V:Box (w.alloc (.cells #[.string R.src,.string R.dst,.slice la R.list.length lc] 91)) w.heap.size [.string R.src,.string R.dst,.slice la R.list.length lc]:=Box.new _ _ _;go_wp2_with fail;obtain⟨l,ab⟩:∃l:World,l=(w.alloc (.cells #[.string R.src,.string R.dst,.slice la R.list.length lc] 91)):=⟨_,rfl⟩;rw[<-ab]at V;have o:Below w.heap.size w l:=by rw[ab];exact bX.alloc bW _
 have a7:l.heap.size=w.heap.size+1:=by rw[ab];simp
 have aa:cy (l.alloc (.map #[] 0)) l.heap.size nu (([]:List Rul).map fA):=cy.made l nu;have au:Below l.heap.size l (l.alloc (.map #[] 0)):=bX.alloc bW _;obtain⟨W2,ay⟩:∃W2:World,W2=l.alloc (.map #[] 0):=⟨_,rfl⟩;rw[<-ay]at aa au;have az:(w.alloc (.cells #[.string R.src,.string R.dst,.slice la R.list.length lc] 91)).alloc (.map #[] 0)=W2:=by rw[ay,ab]
 rw[az];rw[a7]at aa au;have aP:=hl.below o bW;have a8:=bP aa;have ar:=bP (fun(wr:World) (c:Below (w.heap.size+1) l wr)=>(V.below c (by omega)).c3);have bh:=bP (fun(wr:World) (c:Below (w.heap.size+1) l wr) (k:Nat) (hk:k<R.list.length)=>(show∃b off,la=some ⟨b,off,none⟩/\wr.cell? ⟨b,off+k*4,none⟩=some (.string R.list[k].src)/\wr.cell? ⟨b,off+k*4+1,none⟩=some (.string R.list[k].dst)/\
   wr.cell? ⟨b,off+k*4+2,none⟩=some (.string R.list[k].nxt)/\wr.cell? ⟨b,off+k*4+3,none⟩=some (.bool R.list[k].fin)from by
  obtain⟨b,off,e,hb,hc⟩:=aP.aU (by omega);have:=hc k hk;exact⟨b,off,e,(c.cell (p:=⟨b,off+k*4,none⟩) (by show b<_;omega)).trans this.1,(c.cell (p:=⟨b,off+k*4+1,none⟩) (by show b<_;omega)).trans this.2.1,(c.cell (p:=⟨b,off+k*4+2,none⟩) (by show b<_;omega)).trans this.2.2.1,(c.cell (p:=⟨b,off+k*4+3,none⟩) (by show b<_;omega)).trans this.2.2.2⟩))
 clear ay az aa aP hl V br;go_loopw [10] (fun i wr=>∃k:Nat,k<=R.list.length/\i= .int .i64 k/\(∀(a:Nat) r,a<k->R.list[a]?=some r->r.ok)/\(R.list.take k).Nodup/\cy wr (w.heap.size+1) nu ((R.list.take k).map fA)/\Below (w.heap.size+1) l wr) (fun i _=>R.list.length-(intOf i).toNat);case atStart=>exact⟨0,zero_le _,rfl,by simp,by simp,a8.out,au⟩
 case round=>
  obtain⟨k,hk,rfl,aR,ae,hS,c⟩:=hrel;have aL:=bP aR;have aK:=bP ae;have HS:=bP hS;have bK:=o.trans (c.mono (by omega));have bE:=c.size;clear aR ae hS;by_cases ad:k<R.list.length
  .obtain⟨b,off,rfl,k0,k1,k2,k3⟩:=bh.out wr c k ad;obtain⟨x,hx⟩:∃x,R.list[k]=x:=⟨_,rfl⟩;have bx:x∈R.list:=by rw[<-hx];exact getElem_mem ad
   rw[hx]at k0 k1 k2 k3;have Hx:=bP hx;clear hx;obtain⟨H,A⟩:∃H:World,H=wr.alloc (.cells #[.string x.src,.string x.dst,.string x.nxt,.bool x.fin] 88):=⟨_,rfl⟩;have aT:Blk H wr.heap.size #[.string x.src,.string x.dst,.string x.nxt,.bool x.fin] 88:=by rw[A];exact Blk.new _ _ _
   have P:Below wr.heap.size wr H:=by rw[A];exact bX.alloc bW _
   have bJ:H.heap.size=wr.heap.size+1:=by rw[A];simp
   have HK:=bP (fun(Z:World) (g:Below H.heap.size H Z)=>(show(Z.cell? ⟨wr.heap.size,0,none⟩=some (.string x.src)/\Z.cell? ⟨wr.heap.size,1,none⟩=some (.string x.dst)/\Z.cell? ⟨wr.heap.size,2,none⟩=some (.string x.nxt)/\Z.cell? ⟨wr.heap.size,3,none⟩=some (.bool x.fin))/\cy Z (w.heap.size+1) nu ((R.list.take k).map fA)/\Below (w.heap.size+1) l Z from by
    have hB:=aT.below g (by omega);have aM:=P.trans (g.mono (by omega));exact⟨⟨hB.cell 0,hB.cell 1,hB.cell 2,hB.cell 3⟩,ch.below HS.out aM (ch.lt HS.out),c.trans (aM.mono (by have:=c.size;omega))⟩))
   have G:=bP (fun(hn:¬x.ok) (hf:fD R)=>hn (hf.2.2.2.2.1 x bx));clear aT;by_cases p1:eH x.src 1 9
   .have q1:=jJ x.src 1 9 H;rw[A,decide_eq_true p1]at q1;have bc:=bP p1;clear p1;go_wp2_with fail;refine q1.mono ?_;rintro e N ⟨rfl,g⟩;rw[<-A]at g;clear q1 k0 k1 k2 k3;obtain⟨⟨m0,m1,m2,m3⟩,O,B⟩:=HK.out N g;by_cases p2:eH x.dst 0 9
    .have s:=jJ x.dst 0 9 N;rw[decide_eq_true p2]at s;have bd:=bP p2;clear p2;go_wp2_with fail;refine s.mono ?_;rintro e S ⟨rfl,J⟩;have f:=g.trans (J.mono g.size);clear s m0 m1 m2 m3 O B J g;obtain⟨⟨m0,m1,m2,m3⟩,O,B⟩:=HK.out S f;by_cases p3:eH x.nxt 0 30
     .have Y:=jJ x.nxt 0 30 S;rw[decide_eq_true p3]at Y;have be:=bP p3;clear p3;go_wp2_with fail;refine Y.mono ?_;rintro e w5 ⟨rfl,L⟩;have M:=f.trans (L.mono f.size);clear Y m0 m1 m2 m3 O B f L;obtain⟨⟨m0,m1,m2,m3⟩,aw,T⟩:=HK.out w5 M;have D:=o.trans (T.mono (by omega));by_cases Q:x.fin=true/\bl x.nxt≠[]
      .obtain⟨aF,aG⟩:=Q;have e1:=ic aG;have n:=bP (G.out (fun h=>h.2.2.2 ⟨aF,aG⟩));rw[aF]at m3;clear aF aG;go_wp2_with fail;go_ret;exact⟨cj n.out,D⟩
      .have aY:=bP (show x.ok from⟨bc.out,bd.out,be.out,Q⟩);have u:=cy.look aw yT underlying307 (qk w5) (key:=fA x) ⟨x,rfl⟩;by_cases E:x∈R.list.take k
       .rw[decide_eq_true (p6.2 E)]at u;unfold fA at u;have n:=bP (show¬fD R from fun hf=>by
         have ae:=hf.2.2.2.2.2;obtain⟨j,hj,aO⟩:=getElem_of_mem E;rw[length_take]at hj;rw[getElem_take,<-Hx.out]at aO;have:=(getElem_inj ae).1 aO;omega)
        clear E;by_cases d:x.fin=true
        .have F:bl x.nxt=[]:=Classical.byContradiction fun aC=>Q ⟨d,aC⟩;have e1:=iw F;have e2:=(gx _).2 F;rw[d]at m3 u;clear Q d F;go_wp2_with fail;go_ret;exact⟨cj n.out,D⟩
        .have q:x.fin=false:=by simpa using d
         rw[q]at m3 u;clear Q d q;go_wp2_with fail;go_ret;exact⟨cj n.out,D⟩
       .rw[decide_eq_false (fun h=>E (p6.1 h))]at u;obtain⟨w6,X,ax,aN,bw⟩:=cy.put aw yT underlying307 (key:=fA x) ⟨x,rfl⟩;rw[jQ,if_neg (fun h=>E (p6.1 h))]at ax;have bg:=bP ax;have aB:=T.grown aN (by have:=T.size;omega) (fun j hj=>by cases hj;exact bW);have bj:=bP E;unfold fA at u X;have t:=bP (show(∀(a:Nat) r,a<k+1->R.list[a]?=some r->r.ok)/\(R.list.take (k+1)).Nodup/\cy w6 (w.heap.size+1) nu ((R.list.take (k+1)).map fA)from by
         have aS:R.list.take (k+1)=R.list.take k++[x]:=by rw[take_succ_eq_append_getElem ad,Hx.out]
         refine⟨fun a r ha hr=>?_,?_,?_⟩
         .rcases Nat.lt_succ_iff_lt_or_eq.1 ha with h |rfl
          .exact aL.out a r h hr
          .rw[getElem?_eq_getElem ad,Hx.out]at hr;obtain rfl:=Option.some.inj hr;exact aY.out
         .rw[aS];refine nodup_append.2 ⟨aK.out,by simp,fun y hy z hz e=>?_⟩;have:z=x:=by simpa using hz
          subst this;subst e;exact bj.out hy
         .rw[aS,map_append];exact bg.out)
        clear E ax aN bw aw;by_cases d:x.fin=true
        .have F:bl x.nxt=[]:=Classical.byContradiction fun aC=>Q ⟨d,aC⟩;have e1:=iw F;have e2:=(gx _).2 F;rw[d]at m3 u X;clear Q d F;go_wp2_with fail;exact⟨⟨k+1,by omega,by go_num,t.out.1,t.out.2.1,t.out.2.2,aB⟩,by simp[intOf];omega⟩
        .have q:x.fin=false:=by simpa using d
         rw[q]at m3 u X;clear Q d q;go_wp2_with fail;exact⟨⟨k+1,by omega,by go_num,t.out.1,t.out.2.1,t.out.2.2,aB⟩,by simp[intOf];omega⟩
     .have Y:=jJ x.nxt 0 30 S;rw[decide_eq_false p3]at Y;have n:=bP (G.out (fun h=>p3 h.2.2.1));clear p3;go_wp2_with fail;refine Y.mono ?_;rintro e w5 ⟨rfl,L⟩;have M:=f.trans (L.mono f.size);have D:=o.trans ((HK.out w5 M).2.2.mono (by omega));clear Y m0 m1 m2 m3 O B;go_wp2_with fail;go_ret;exact⟨cj n.out,D⟩
    .have s:=jJ x.dst 0 9 N;rw[decide_eq_false p2]at s;have n:=bP (G.out (fun h=>p2 h.2.1));clear p2;go_wp2_with fail;refine s.mono ?_;rintro e S ⟨rfl,J⟩;have f:=g.trans (J.mono g.size);have C:=o.trans ((HK.out S f).2.2.mono (by omega));clear s m0 m1 m2 m3 O B;go_wp2_with fail;go_ret;exact⟨cj n.out,C⟩
   .have q1:=jJ x.src 1 9 H;rw[A,decide_eq_false p1]at q1;have n:=bP (G.out (fun h=>p1 h.1));clear p1;go_wp2_with fail;refine q1.mono ?_;rintro e N ⟨rfl,g⟩;rw[<-A]at g;have U:=o.trans ((HK.out N g).2.2.mono (by omega));clear q1 k0 k1 k2 k3;go_wp2_with fail;go_ret;exact⟨cj n.out,U⟩
  .obtain rfl:k=R.list.length:=by omega
   obtain⟨r0,r1,r2⟩:=ar.out wr c;have aq:=bP (show(∀r∈R.list,r.ok)/\R.list.Nodup from⟨fun r hr=>by
    obtain⟨i,hi⟩:=getElem?_of_mem hr;exact aL.out i r (List.getElem?_eq_some_iff.1 hi).1 hi,by have:=aK.out;rwa [take_length]at this⟩)
   have q1:=sq R.src bt wr;by_cases n1:df (bl R.src)=true
   .rw[n1]at q1;have ba:=bP n1;clear n1;go_wp2_with fail;refine q1.mono ?_;rintro e N ⟨rfl,P⟩;have m:=c.trans (P.mono (by omega));clear r0 r1 r2 q1;obtain⟨r0,r1,r2⟩:=ar.out N m;have s:=sq R.dst bu N;by_cases n2:df (bl R.dst)=true
    .rw[n2]at s;have bb:=bP n2;clear n2;go_wp2_with fail;refine s.mono ?_;rintro e S ⟨rfl,aA⟩;have I:=m.trans (aA.mono (by have:=m.size;omega));have C:=o.trans (I.mono (by omega));clear r0 r1 r2 s;obtain⟨r0,r1,r2⟩:=ar.out S I;go_wp2_with fail;all_goals
      go_ret;refine⟨fy ?_,C⟩;have hF:fD R↔1<=R.list.length/\R.list.length<=80:=by
       unfold fD;constructor
       .intro h;exact⟨h.2.2.1,h.2.2.2.1⟩
       .intro h;exact⟨ba.out,bb.out,h.1,h.2,aq.out.1,aq.out.2⟩
      rw[hF];simp;try omega
    .have aW:df (bl R.dst)=false:=by simpa using n2
     have n:=bP (show¬fD R from fun h=>n2 h.2.1);rw[aW]at s;clear n2 aW;go_wp2_with fail;refine s.mono ?_;rintro e S ⟨rfl,aA⟩;have I:=m.trans (aA.mono (by have:=m.size;omega));have C:=o.trans (I.mono (by omega));clear r0 r1 r2 s;go_wp2_with fail;go_ret;exact⟨cj n.out,C⟩
   .have aV:df (bl R.src)=false:=by simpa using n1
    have n:=bP (show¬fD R from fun h=>n1 h.1);rw[aV]at q1;clear n1 aV;go_wp2_with fail;refine q1.mono ?_;rintro e N ⟨rfl,P⟩;have m:=c.trans (P.mono (by omega));have U:=o.trans (m.mono (by omega));clear r0 r1 r2 q1;go_wp2_with fail;go_ret;exact⟨cj n.out,U⟩
theorem pZ (A:cr)(n:cG A)(s:ByteArray)(most:Nat)(m:s.size<=maxLen)(v:Value)(w:World)(h:cH w w.heap.size v A):
  Calls prog 224 #[v,.string s,.int .i64 most] w fun e w'=>
   ∃u,e= .returned (.tuple #[u,.bool (decide (eU A.bls (bl s) most))])/\
    w'.ownsRow w.heap.size 3 1 u (eL A.bls (bl s)).length (nums (eL A.bls (bl s)))/\Below w.heap.size w w':=by
 have k:=h;obtain⟨o,lc,p,q,rfl,B,r,x,t,z,y⟩:=h;go_enter func224,ntmps224;by_cases he:bl s=[]
 .have h1:=iw he;go_wp2;go_ret2;refine⟨_,kC (decide_eq_true (.inl he)).symm,?_,bX.alloc bW _⟩;rw[eL,if_pos he];exact ownsRow_nil _ _ _ _
 .have h1:=ic he;have c:=bP he;clear he;go_wp2_with fail;have f:dG A s=cB A.bls (bl s):=by rw[dG,if_pos n]
  have i:=lW A _ s m (w.alloc (.cells #[.string A.name,.slice o A.letters.length lc,.slice p A.small.length q] 83)) ((k.below (bX.alloc bW _) bW).more (by simp));rw[f]at i;refine i.mono ?_;clear i f;rintro e E ⟨u,rfl,b,d⟩;obtain⟨C,D,rfl,_⟩:=b8.ah b;have j:=bP b;clear b;by_cases a:(cB A.bls (bl s)).err=0
  .have l:((cB A.bls (bl s)).err==0)=true:=by simp[a]
   have g:=bP a;clear a;go_wp2;go_ret2;refine⟨_,kC ?_,?_,(bX.alloc bW _).trans (d.mono (by simp))⟩
   .rw[Bool.eq_iff_iff,decide_eq_true_iff,decide_eq_true_iff,eU];simp[c.out,g.out]
   .rw[eL,if_neg c.out];exact cP j.out (by simp)
  .have l:((cB A.bls (bl s)).err==0)=false:=by simp[a]
   go_wp2;go_ret2;refine⟨_,kC (decide_eq_false (fun h=>h.elim c.out (fun h=>a h.1))).symm,?_,(bX.alloc bW _).trans (d.mono (by simp))⟩;rw[eL,if_neg c.out];exact cP j.out (by simp)
theorem zS:(prog.info? 285).map (fun i=>(i.zero,i.size,i.bytes))=some (some (.agg #[.string ⟨#[]⟩,.string ⟨#[]⟩,.string ⟨#[]⟩,.bool false,.slice none 0 0,.slice none 0 0]),6,104):=by kernel_rfl
def EJ (x:Rul)(p:Value×Value):List Value:=x.cells++[p.1,p.2]
def mK (l:List Rul)(F:List (Value×Value)):List Value:=(l.zip F).flatMap fun q=>EJ q.1 q.2
def jC (R:dj)(A:cr)(base:Nat)(F:List (Value×Value))(w:World):Prop:=
 ∀(i:Nat) x p,R.list[i]?=some x->F[i]?=some p->w.ownsRow base 3 1 p.1 (eL A.bls (bl x.src)).length (nums (eL A.bls (bl x.src)))/\w.ownsRow base 3 1 p.2 (eL A.bls (bl x.nxt)).length (nums (eL A.bls (bl x.nxt)))
theorem jC.imp {base:Nat}{F:List (Value×Value)}(h:jC R A base F w)(hk:∀v n xs,w.ownsRow base 3 1 v n xs->w'.ownsRow base 3 1 v n xs):jC R A base F w':=
 fun i x p a hp=>⟨hk _ _ _ (h i x p a hp).1,hk _ _ _ (h i x p a hp).2⟩
theorem zK (l:List Rul)(F:List (Value×Value))(k:Nat)(x:Rul)(p:Value×Value)(hF:F.length=k)(d:l[k]?=some x):mK l (F++[p])=mK l F++EJ x p:=by
 unfold mK;obtain⟨hk,he⟩:=List.getElem?_eq_some_iff.1 d;have a:l=l.take k++l[k]::l.drop (k+1):=by rw[<-drop_eq_getElem_cons hk,take_append_drop]
 have h1:(l.take k).length=F.length:=by rw[length_take];omega
 have b:l.zip (F++[p])=(l.take k).zip F++[(x,p)]:=by
  conv=>lhs;rw[a]
  rw[zip_append h1,he];simp
 have c:l.zip F=(l.take k).zip F:=by
  conv=>lhs;rw[a,show F=F++[]from by simp]
  rw[zip_append h1];simp
 rw[b,c,flatMap_append];simp
def qZ (R:dj)(A B:cr)(w:World)(e:Ending)(w':World):Prop:=
 ∃v,e= .returned (.tuple #[v,.bool (decide (dr R A B))])/\Below w.heap.size w w'/\
  (dr R A B->∃F,F.length=R.list.length/\w'.ownsRow w.heap.size 285 6 v R.list.length (mK R.list F)/\jC R A w.heap.size F w')
theorem jI {B:cr}(h:¬dr R A B)(a:Below w.heap.size w w'):qZ R A B w (.returned (.tuple #[.slice none 0 0,.bool false])) w':=
 ⟨_,by rw[decide_eq_false h],a,fun b=>absurd b h⟩
theorem Dk {B:cr}{v:Value}(h:dr R A B)(a:Below w.heap.size w w')(hF:∃F,F.length=R.list.length/\w'.ownsRow w.heap.size 285 6 v R.list.length (mK R.list F)/\jC R A w.heap.size F w'):
  qZ R A B w (.returned (.tuple #[v,.bool true])) w':=
 ⟨_,by rw[decide_eq_true h],a,fun _=>hF⟩
theorem Dj (R:dj)(A B:cr)(v va vb:Value)(w:World)(h:dY w w.heap.size v R)(ha:cH w w.heap.size va A)(hb:cH w w.heap.size vb B):
  Calls prog 191 #[v,va,vb] w (qZ R A B w):=by
 have hR:=h;have hA:=ha;have hB:=hb;obtain⟨la,lc,rfl,cM,cN,bz,b6,hl⟩:=h;obtain⟨fa,fc,ga,gc,rfl,hn,cE,b7,cI,aG,cD⟩:=ha;obtain⟨aP,aQ,aS,aT,rfl,cL,cF,cO,cx,cq,ct⟩:=hb;obtain⟨i0,X,cc,cd,cf⟩:=info_parts zS;have cw:=bz;unfold maxLen at bz;go_enter func191,ntmps191;go_wp2_with fail;generalize N:(((w.alloc _).alloc _).alloc _)=g;have c:Below w.heap.size w g:=by rw[<-N];exact((bX.alloc bW _).alloc (by simp) _).alloc (by simp;omega) _
 have ca:g.heap.size=w.heap.size+3:=by rw[<-N];simp
 have bw:Box g w.heap.size [Value.string R.src,.string R.dst,.slice la R.list.length lc]:=by
  rw[<-N];exact((Box.new _ _ _).alloc (by simp) _).alloc (by simp;omega) _
 have bu:Box g (w.heap.size+1) [Value.string A.name,.slice fa A.letters.length fc,.slice ga A.small.length gc]:=by
  rw[<-N];have:=(Box.new (w.alloc (.cells #[Value.string R.src,.string R.dst,.slice la R.list.length lc] 91)) [Value.string A.name,.slice fa A.letters.length fc,.slice ga A.small.length gc] 83);simp at this;exact this.alloc (by simp) _
 have ae:Box g (w.heap.size+2) [Value.string B.name,.slice aP B.letters.length aQ,.slice aS B.small.length aT]:=by
  rw[<-N];have:=(Box.new ((w.alloc (.cells #[Value.string R.src,.string R.dst,.slice la R.list.length lc] 91)).alloc (.cells #[Value.string A.name,.slice fa A.letters.length fc,.slice ga A.small.length gc] 83)) [Value.string B.name,.slice aP B.letters.length aQ,.slice aS B.small.length aT] 83);simpa using this
 clear N;have Hk:=bP (fun wr (d:Below g.heap.size g wr)=>And.intro (bw.below d (by omega)).c3 (And.intro (bu.below d (by omega)).c3 (ae.below d (by omega)).c3));clear bw bu ae;refine(zN R _ _ ((hR.below c bW).more c.size)).mono ?_;rintro e w1 ⟨rfl,aC⟩;have an:=c.trans (aC.mono c.size);by_cases hf:fD R
 .rw[decide_eq_true hf];obtain⟨⟨G,H,I⟩,⟨a0,q,a2⟩,s,u,z⟩:=Hk.out w1 aC;go_wp2_with fail;refine(iX A _ _ ((hA.below an bW).more an.size)).mono ?_;rintro e w2 ⟨rfl,b3⟩;have V:=aC.trans (b3.mono aC.size);have ao:=c.trans (V.mono c.size);clear G H I a0 q a2 s u z;by_cases Q:cG A
  .rw[decide_eq_true Q];obtain⟨⟨G,H,I⟩,⟨a0,q,a2⟩,s,u,z⟩:=Hk.out w2 V;go_wp2_with fail;refine(iX B _ _ ((hB.below ao bW).more ao.size)).mono ?_;rintro e w3 ⟨rfl,aD⟩;have ar:=V.trans (aD.mono V.size);have aq:=c.trans (ar.mono c.size);clear G H I a0 q a2 s u z;by_cases S:cG B
   .rw[decide_eq_true S];obtain⟨⟨G,H,I⟩,⟨a0,q,a2⟩,s,u,z⟩:=Hk.out w3 ar;by_cases o:R.src=A.name
    .by_cases O:R.dst=B.name
     .have d1:(R.src.toList==A.name.toList)=true:=by rw[o];simp
      have d2:(R.dst.toList==B.name.toList)=true:=by rw[O];simp
      have He:=bQ o O;have HV:=bS hf Q S;have cK:=hf.2.2.1;have cy:=hf.2.2.2.1;obtain⟨b,off,rfl,hb,hc⟩:=hl.aU (by omega);have bU:=bP (fun wr (d:Below w.heap.size w wr) i (X:i<R.list.length)=>
       (And.intro ((d.cell (p:=⟨b,off+i*4,none⟩) hb).trans (hc i X).1) (And.intro ((d.cell (p:=⟨b,off+i*4+1,none⟩) hb).trans (hc i X).2.1)
        (And.intro ((d.cell (p:=⟨b,off+i*4+2,none⟩) hb).trans (hc i X).2.2.1) ((d.cell (p:=⟨b,off+i*4+3,none⟩) hb).trans (hc i X).2.2.2)))))
      clear o O hf Q S hc;go_wp2_with fail;clear G H I a0 q a2 s u z d1 d2;go_loopw [8,47] (fun out i wr=>∃(k:Nat) (F:List (Value×Value)),k<=R.list.length/\i= .int .i64 k/\F.length=k/\(∀(a:Nat) r,a<k->R.list[a]?=some r->r.aJ A B)/\
       wr.ownsRow g.heap.size 285 6 out k (mK R.list F)/\jC R A g.heap.size F wr/\Below g.heap.size g wr) (fun _ i _=>R.list.length-(intOf i).toNat)
      case atStart=>exact⟨0,[],zero_le _,rfl,rfl,by simp,by simpa [mK]using ownsRow_nil _ _ _ _,fun i x p hx hp=>by simp at hp,ar⟩
      case round=>
       obtain⟨k,F,hk,rfl,bq,bA,bb,bB,d⟩:=hrel;have bk:=bP bA;have aN:=bP bb;have aL:=bP bB;have ab:=bP bq;clear bA bb bB bq;have bD:=c.trans (d.mono c.size);have cz:=d.size;obtain⟨⟨G,H,I⟩,⟨a0,q,a2⟩,s,u,z⟩:=Hk.out wr d;by_cases aH:k<R.list.length
       .obtain⟨k0,k1,k2,k3⟩:=bU.out wr bD k aH;obtain⟨q1,q2,q3⟩:=b6 _ (getElem_mem aH);obtain⟨x,hx⟩:∃x,R.list[k]=x:=⟨_,rfl⟩;rw[hx]at k0 k1 k2 k3 q1 q2 q3;have cb:x∈R.list:=by rw[<-hx];exact getElem_mem aH
        have Hx:=bP (show R.list[k]?=some x from by rw[getElem?_eq_getElem aH,hx]);clear hx;obtain⟨J,ad⟩:∃J:World,J=wr.alloc (.cells #[.string x.src,.string x.dst,.string x.nxt,.bool x.fin] 88):=⟨_,rfl⟩;have bE:Blk J wr.heap.size #[.string x.src,.string x.dst,.string x.nxt,.bool x.fin] 88:=by rw[ad];exact Blk.new _ _ _
        have aD:Below wr.heap.size wr J:=by rw[ad];exact bX.alloc bW _
        have b7:J.heap.size=wr.heap.size+1:=by rw[ad];simp
        have HK:=bP (fun(wx:World) (bx:Below J.heap.size J wx)=>(show(wx.cell? ⟨wr.heap.size,0,none⟩=some (.string x.src)/\wx.cell? ⟨wr.heap.size,1,none⟩=some (.string x.dst)/\wx.cell? ⟨wr.heap.size,2,none⟩=some (.string x.nxt)/\wx.cell? ⟨wr.heap.size,3,none⟩=some (.bool x.fin))/\Below g.heap.size g wx/\Below wr.heap.size wr wx from by
         have hB:=bE.below bx (by omega);have ae:=aD.trans (bx.mono (by omega));exact⟨⟨hB.cell 0,hB.cell 1,hB.cell 2,hB.cell 3⟩,d.trans (ae.mono d.size),ae⟩))
        clear bE;have a6:Below g.heap.size g J:=d.trans (aD.mono d.size);have aF:=c.trans (a6.mono c.size);obtain⟨g0,g1,g2⟩:=(Hk.out J a6).2.1;have aO:=pZ A HV.out.2.1 x.src 3 q1 (.agg #[.string A.name,.slice fa A.letters.length fc,.slice ga A.small.length gc]) J ((hA.below aF bW).more aF.size);rw[ad]at g0 g1 g2 aO;go_wp2_with fail;refine aO.mono ?_;rintro e w4 ⟨f,rfl,ba,aE⟩;rw[<-ad]at ba aE;have bY:=bP ba;clear aO g0 g1 g2 G H I a0 q a2 s u z k0 k1 k2 k3 ba;obtain⟨⟨m0,m1,m2,m3⟩,aw,cn⟩:=HK.out w4 aE;obtain⟨⟨G,H,I⟩,⟨a0,q,a2⟩,s,u,z⟩:=Hk.out w4 aw;have aV:=c.trans (aw.mono c.size);have bm:=pZ A HV.out.2.1 x.nxt 10 q3 (.agg #[.string A.name,.slice fa A.letters.length fc,.slice ga A.small.length gc]) w4 ((hA.below aV bW).more aV.size);go_wp2_with fail;refine bm.mono ?_;rintro e w5 ⟨n,rfl,bC,bt⟩;have au:=aE.trans (bt.mono aE.size);have bZ:=bP bC;have bG:=bP (cJ bY.out bt);clear bm G H I a0 q a2 s u z m0 m1 m2 m3 bC;obtain⟨⟨m0,m1,m2,m3⟩,aW,cp⟩:=HK.out w5 au;obtain⟨⟨G,H,I⟩,⟨a0,q,a2⟩,s,u,z⟩:=Hk.out w5 aW;have aX:=c.trans (aW.mono c.size);have bp:=pZ B HV.out.2.2 x.dst 3 q2 (.agg #[.string B.name,.slice aP B.letters.length aQ,.slice aS B.small.length aT]) w5 ((hB.below aX bW).more aX.size);go_wp2_with fail;refine bp.mono ?_;rintro e w6 ⟨t,rfl,_,aY⟩;have bL:=au.trans (aY.mono au.size);clear bp G H I a0 q a2 s u z m0 m1 m2 m3;obtain⟨⟨m0,m1,m2,m3⟩,ax,aZ⟩:=HK.out w6 bL;have ay:=c.trans (ax.mono c.size);by_cases p:x.aJ A B
        .obtain⟨E,p2,p3⟩:=p;have P:=bP (show x.aJ A B from⟨E,p2,p3⟩);rw[decide_eq_true E,decide_eq_true p2,decide_eq_true p3];clear E p2 p3;have az:=cP (cJ bG.out aY) (base':=g.heap.size) (by omega);have aA:=cP (cJ bZ.out aY) (base':=g.heap.size) (by have:=aw.size;omega);have Y:=cJ aN.out aZ;have aM:=bP (aL.out.imp (w':=w6) (fun v n xs h=>cJ h aZ));obtain⟨L,M,rfl,_⟩:=b8.ah az;obtain⟨T,U,rfl,_⟩:=b8.ah aA;have bH:=bP az;have bI:=bP aA;have b9:=ax.size;obtain⟨fl,aG⟩:∃fl,(eL A.bls (bl x.src)).length=fl:=⟨_,rfl⟩;obtain⟨nl,a8⟩:∃nl,(eL A.bls (bl x.nxt)).length=nl:=⟨_,rfl⟩;rw[aG,a8];have bj:=bQ aG a8;clear az aA aG a8;go_wp2_with (at_builtin;refine wpList_append_own_at _ rfl _ _ 256 rfl g.heap.size 285 i0 _ 6 104 underlying256 X cc cd cf rfl (by decide) _ _ _ rfl (Y.alloc _) ⟨w6.heap.size,0,none⟩ 1 1 [.string x.src,.string x.dst,.string x.nxt,.bool x.fin,.slice L fl M,.slice T nl U] rfl rfl ?c1 ?c2 ?c3 ?c4 ?c5 ?_);case c1=>
          exact dQ w6 [.string x.src,.string x.dst,.string x.nxt,.bool x.fin,.slice L fl M,.slice T nl U] 285
         case c2=>simp[Value.oneCell']
         case c3=>unfold maxLen;omega
         case c4=>omega
         case c5=>simp;omega
         intro v' w7 Z C _ bf;have br:=(Y.alloc (.cells #[.string x.src,.string x.dst,.string x.nxt,.bool x.fin,.slice L fl M,.slice T nl U] 285));have l:∀v n xs,w6.ownsRow g.heap.size 3 1 v n xs->w7.ownsRow g.heap.size 3 1 v n xs:=fun v n xs h=>dK (h.alloc _) br (by decide) C;have b4:Below g.heap.size g w7:=(ax.alloc b9 _).grown C (by simp;omega) (fun j hj=>(Y.lt j hj).1);have HE:=bP (show w7.ownsRow g.heap.size 285 6 v' (k+1) (mK R.list (F++[(.slice L fl M,.slice T nl U)]))/\jC R A g.heap.size (F++[(.slice L fl M,.slice T nl U)]) w7 from by
          refine⟨?_,fun i y p hy hp=>?_⟩
          .rw[zK R.list F k x _ ab.out Hx.out,ca];exact Z
          .rcases Nat.lt_or_ge i F.length with h |h
           .rw[getElem?_append_left h]at hp;exact⟨l _ _ _ (aM.out i y p hy hp).1,l _ _ _ (aM.out i y p hy hp).2⟩
           .rw[getElem?_append_right h]at hp;have b5:i=k:=by
             have:=(List.getElem?_eq_some_iff.1 hp).1;have hF:=ab.out;simp at this;omega
            subst b5;rw[Hx.out]at hy;obtain rfl:=Option.some.inj hy;rw[ab.out]at hp;simp at hp;subst hp;rw[<-bj.out.1,<-bj.out.2];exact⟨l _ _ _ bH.out,l _ _ _ bI.out⟩)
         obtain⟨ov,oc,rfl⟩:=iS Z;clear Z C bf br l;go_wp2_with fail;refine⟨⟨k+1,F++[(.slice L fl M,.slice T nl U)],by omega,by go_num,by simp[ab.out],fun a r ha hr=>?_,HE.out.1,HE.out.2,b4⟩,by simp[intOf];omega⟩;rcases Nat.lt_succ_iff_lt_or_eq.1 ha with h |rfl
         .exact bk.out a r h hr
         .rw[Hx.out]at hr;obtain rfl:=Option.some.inj hr;exact P.out
        .have m:=bP (show¬dr R A B from fun D=>p (D.2.2.2.2.2 x cb));by_cases E:eU A.bls (bl x.src) 3
         .by_cases p3:eU A.bls (bl x.nxt) 10
          .have p2:¬eU B.bls (bl x.dst) 3:=fun h=>p ⟨E,h,p3⟩;rw[decide_eq_true E,decide_eq_true p3,decide_eq_false p2];clear p E p2 p3;go_wp2_with fail;go_ret2;exact jI m.out ay
          .rw[decide_eq_true E,decide_eq_false p3];clear p E p3;go_wp2_with fail;go_ret2;exact jI m.out ay
         .rw[decide_eq_false E];clear p E;go_wp2_with fail;go_ret2;exact jI m.out ay
       .obtain rfl:k=R.list.length:=by omega
        have bT:=bP (show dr R A B from⟨HV.out.1,HV.out.2.1,HV.out.2.2,He.out.1,He.out.2,fun r hr=>by
         obtain⟨i,X⟩:=getElem?_of_mem hr;exact bk.out i r (List.getElem?_eq_some_iff.1 X).1 X⟩)
        go_wp2_with fail;go_ret2;exact Dk bT.out bD ⟨F,ab.out,cP aN.out c.size,fun i x p hx hp=>⟨cP (aL.out i x p hx hp).1 c.size,cP (aL.out i x p hx hp).2 c.size⟩⟩
     .have d1:(R.src.toList==A.name.toList)=true:=by rw[o];simp
      have d2:(!R.dst.toList==B.name.toList)=true:=nT.2 O;have d3:(R.dst.toList==B.name.toList)=false:=by simpa using d2
      have m:=bP (show¬dr R A B from fun D=>O D.2.2.2.2.1);clear o O d2;go_wp2_with fail;go_ret2;exact jI m.out aq
    .have d2:(!R.src.toList==A.name.toList)=true:=nT.2 o;have d3:(R.src.toList==A.name.toList)=false:=by simpa using d2
     have m:=bP (show¬dr R A B from fun D=>o D.2.2.2.1);clear o d2;go_wp2_with fail;go_ret2;exact jI m.out aq
   .rw[decide_eq_false S];have m:=bP (show¬dr R A B from fun D=>S D.2.2.1);clear S;go_wp2_with fail;go_ret2;exact jI m.out aq
  .rw[decide_eq_false Q];have m:=bP (show¬dr R A B from fun D=>Q D.2.1);clear Q;go_wp2_with fail;go_ret2;exact jI m.out ao
 .rw[decide_eq_false hf];have m:=bP (show¬dr R A B from fun D=>hf D.1);clear hf;go_wp2_with fail;go_ret2;exact jI m.out an
theorem rW (R:dj)(A B:cr)(v g i:Value)(w:World)(h:dY w w.heap.size v R)(c:cH w w.heap.size g A)(d:cH w w.heap.size i B):
  Calls prog 129 #[v,g,i] w fun e w'=>e= .returned (.bool (decide (dr R A B)))/\Below w.heap.size w w':=by
 have m:=h;have k:=c;have l:=d;obtain⟨P,lc,rfl,H,I,D,E,N⟩:=h;obtain⟨fa,fc,M,gc,rfl,O,z,J,F,x,y⟩:=c;obtain⟨q,r,s,t,rfl,G,C,L,p,n,o⟩:=d;go_enter func129,ntmps129;go_wp2_with fail;generalize b:(((w.alloc _).alloc _).alloc _)=j;have a:Below w.heap.size w j:=by rw[<-b];exact((bX.alloc bW _).alloc (by simp) _).alloc (by simp;omega) _
 clear b;refine(Dj R A B _ _ _ _ ((m.below a bW).more a.size) ((k.below a bW).more a.size) ((l.below a bW).more a.size)).mono ?_;rintro e Q ⟨u,rfl,f,_⟩;go_wp2_with fail;go_ret;exact⟨rfl,a.trans (f.mono a.size)⟩
theorem zQ:(prog.info? 3).isSome=true:=by kernel_rfl
theorem EA (x y:Int×Int)(w:World):(Op.equal 148 (.agg #[.int .i64 x.1,.int .i64 x.2]) (.agg #[.int .i64 y.1,.int .i64 y.2])).run prog w= .ok (decide (x=y)) w:=by
 obtain⟨i0,g⟩:=Option.isSome_iff_exists.1 zQ;unfold Op.equal Op.maxDepth;rw[show(10000:Nat)=9999+1 from rfl,run_equalIn_array w 9999 _ _ underlying148 g];have f:prog.cellsOf 3=1:=by kernel_rfl
 rw[f,show range 2=[0,1]from rfl];unfold Op.eqItems Op.eqItems Op.eqItems;go_simp;obtain⟨a,b⟩:=x;obtain⟨c,d⟩:=y;simp only[Prod.mk.injEq];by_cases h1:a=c<;>by_cases e:b=d<;>simp[h1,e]
def ttV (x:Int×Int):Value:= .agg #[.int .i64 x.1,.int .i64 x.2]
def oW (v:Value):Prop:=∃x,v=ttV x
theorem zg {x y:Int×Int}(h:ttV x=ttV y):x=y:=by
 cases x;cases y;simpa [ttV]using h
theorem EP {x y:Int×Int}:ttV x=ttV y↔x=y:=⟨zg,fun h=>by rw[h]⟩
theorem vo:jh prog 148 oW:=by
 refine iv underlying148 ?_ ?_ ?_ ?_
 .rintro _ _ ⟨x,rfl⟩ ⟨y,rfl⟩;rfl
 .rintro em w _ ⟨x,rfl⟩;unfold ttV;rw[show(10000:Nat)=9998+1+1 from rfl,Instr.checkKey];simp only[Sem.run_bind,run_underlying underlying148,Result.andThen_ok];simp only[Std.Legacy.Range.forIn_eq_forIn_range',Std.Legacy.Range.size,Nat.sub_zero,Nat.add_one_sub_one,Nat.div_one];rw[show range' 0 2 1=[0,1]from rfl];go_simp;simp only[mH,Result.andThen_ok]
 .rintro _ ⟨x,rfl⟩;simp[ttV,Instr.sameBits]
 .rintro w _ _ ⟨x,rfl⟩ ⟨y,rfl⟩;rw[show(Op.equal 148 (ttV x) (ttV y)).run prog w= .ok (decide (x=y)) w from EA x y w];congr 1;rw[decide_eq_decide,EP]
def eK (w:World)(B:Nat)(b:cC)(l:List dj)(es:List (Value×Value)):Prop:=
 es.length=l.length/\∀(m:Nat) (r:dj) (p:Value×Value),l[m]?=some r->es[m]?=some p->∃(i j:Nat) (A A':cr),b.no r.src i A/\b.no r.dst j A'/\p.1=ttV ((i:Int),(j:Int))/\dY w B p.2 r
theorem eK.below {B':Nat}{l:List dj}(h:eK w B b l es)(f:Below B' w w')(e:B<=B'):eK w' B b l es:=
 ⟨h.1,fun m r p g hp=>by
  obtain⟨i,j,A,A',h1,a,c,d⟩:=h.2 m r p g hp;exact⟨i,j,A,A',h1,a,c,d.below f e⟩⟩
def oX (b:cC)(w:World)(e:Ending)(w':World):Prop:=
 ((¬cU b/\e= .returned (.tuple #[.map none,.bool false]))\/(cU b/\∃a es,e= .returned (.tuple #[.map (some a),.bool true])/\w.heap.size<=a/\ch w' a oW es/\eK w' w.heap.size b b.rules es))/\Below w.heap.size w w'
theorem gE (h:¬cU b)(a:Below w.heap.size w w'):oX b w (.returned (.tuple #[.map none,.bool false])) w':=⟨.inl ⟨h,rfl⟩,a⟩
theorem BJ {a:Nat}(h:cU b)(h1:w.heap.size<=a)(c:ch w' a oW es)(d:eK w' w.heap.size b b.rules es)(e:Below w.heap.size w w'):oX b w (.returned (.tuple #[.map (some a),.bool true])) w':=
 ⟨.inr ⟨h,a,es,rfl,h1,c,d⟩,e⟩
theorem sC (s:ByteArray):∃(v:Int) (t:Bool),(∀(w:World) (nb:Nat),ch w nb dR (fe b.names)->(Instr.lookup 135 (.map (some nb)) (.string s) true).run prog w= .ok (.tuple #[.int .i64 v,.bool t]) w)/\
  ((t=true/\∃(i:Nat) (A:cr),b.no s i A/\v=(i:Int))\/(t=false/\s∉b.names/\v=0)):=by
 by_cases h:s∈b.names
 .obtain⟨i,A,c⟩:=cC.bK h;exact⟨i,true,fun w nb a=>gQ a (cC.aR c),.inl ⟨rfl,i,A,c,rfl⟩⟩
 .exact⟨0,false,fun w nb a=>gP a h,.inr ⟨rfl,h,rfl⟩⟩
theorem Cu (w:World):(zeroValue 91).run prog w= .ok (.agg #[.string ByteArray.empty,.string ByteArray.empty,.slice none 0 0]) w:=by kernel_rfl
theorem pP (es:List (Value×Value))(x:Int×Int)(f:∀p∈es,∃s0 s1 ra a rc,p.2=Value.agg #[.string s0,.string s1,.slice ra a rc]):∃(s0 s1:ByteArray) (ra:Option Addr) (a rc:Nat) (t:Bool),(∀(w:World) (b:Nat),ch w b oW es->(Instr.lookup 131 (.map (some b)) (.agg #[.int .i64 x.1,.int .i64 x.2]) true).run prog w= .ok (.tuple #[.agg #[.string s0,.string s1,.slice ra a rc],.bool t]) w)/\
  ((t=true/\(ttV x,Value.agg #[.string s0,.string s1,.slice ra a rc])∈es)\/(t=false/\∀p∈es,p.1≠ttV x)):=by
 by_cases h:∃p∈es,p.1=ttV x
 .obtain⟨⟨k,v⟩,hp,e⟩:=h;simp only at e;subst e;obtain⟨s0,s1,ra,a,rc,rfl⟩:=f _ hp;refine⟨s0,s1,ra,a,rc,true,fun w b d=>?_,.inl ⟨rfl,hp⟩⟩;have:=d.ar vo underlying131 hp true;rwa [if_pos rfl]at this
 .have c:∀p∈es,p.1≠ttV x:=fun p hp e=>h ⟨p,hp,e⟩;refine⟨ByteArray.empty,ByteArray.empty,none,0,0,false,fun w b d=>?_,.inr ⟨rfl,c⟩⟩;have:=d.aA vo underlying131 (Cu w) (key:=ttV x) ⟨x,rfl⟩ c true;rwa [if_pos rfl]at this
theorem eK.bz {l:List dj}(h:eK w B b l es):∀p∈es,∃s0 s1 ra d rc,p.2=Value.agg #[.string s0,.string s1,.slice ra d rc]:=fun p hp=>by
 obtain⟨m,hm⟩:=getElem?_of_mem hp;obtain⟨f,_⟩:=List.getElem?_eq_some_iff.1 hm;obtain⟨i,j,A,A',_,_,_,a,c,e,_⟩:=h.2 m _ p (getElem?_eq_getElem (by have:=h.1;omega)) hm;exact⟨_,_,_,_,_,e⟩
theorem eK.snoc {l:List dj}(h:eK w B b l es)(h1:b.no r.src i A)(d:b.no r.dst j A'){v:Value}(e:dY w B v r):eK w B b (l++[r]) (es++[(ttV ((i:Int),(j:Int)),v)]):=by
 refine⟨by simp[h.1],fun m f p a hp=>?_⟩;rcases Nat.lt_or_ge m l.length with hm |hm
 .rw[getElem?_append_left hm]at a;rw[getElem?_append_left (by rw[h.1];exact hm)]at hp;exact h.2 m f p a hp
 .rw[getElem?_append_right hm]at a;rw[getElem?_append_right (by rw[h.1];exact hm),h.1]at hp;have c:m-l.length=0:=by have:=(List.getElem?_eq_some_iff.1 a).1;simp at this;omega
  rw[c]at a hp;simp at a hp;subst a hp;exact⟨i,j,A,A',h1,d,rfl,e⟩
theorem eK.has {l:List dj}(h:eK w B b l es){v:Value}(hm:(ttV ((i:Int),(j:Int)),v)∈es):∃r∈l,∃A A',b.no r.src i A/\b.no r.dst j A'/\dY w B v r:=by
 obtain⟨m,hm⟩:=getElem?_of_mem hm;obtain⟨o,_⟩:=List.getElem?_eq_some_iff.1 hm;have a:m<l.length:=by have:=h.1;omega
 have c:l[m]?=some l[m]:=getElem?_eq_getElem a;obtain⟨k,n,A,A',h1,d,f,g⟩:=h.2 m _ _ c hm;have e:=zg f;simp only[Prod.mk.injEq]at e;obtain rfl:i=k:=by omega
 obtain rfl:j=n:=by omega
 exact⟨_,mem_of_getElem? c,A,A',h1,d,g⟩
theorem eK.bg {l:List dj}(d:b.names.Nodup)(h:eK w B b l es)(hm:∀p∈es,p.1≠ttV ((i:Int),(j:Int)))(f:r∈l)(h1:b.no r.src i A)(e:b.no r.dst j A'):False:=by
 obtain⟨m,a⟩:=getElem?_of_mem f;obtain⟨g,_⟩:=List.getElem?_eq_some_iff.1 a;have c:m<es.length:=by have:=h.1;omega
 have he:es[m]?=some es[m]:=getElem?_eq_getElem c;obtain⟨o,q,k,n,k1,k2,k3,_⟩:=h.2 m r _ a he;obtain⟨rfl,_⟩:=cC.aq d h1 k1;obtain⟨rfl,_⟩:=cC.aq d e k2;exact hm _ (mem_of_getElem? he) k3
theorem fO.snoc (g:b.names.Nodup){l:List dj}(h:fO b l)(hw:eK w B b l es)(h1:b.no r.src i A)(d:b.no r.dst j A')(f:i≠j)(k:dr r A A')(hm:∀p∈es,p.1≠ttV ((i:Int),(j:Int))):fO b (l++[r]):=by
 refine⟨fun s a=>?_,?_⟩
 .rcases mem_append.1 a with a |a
  .exact h.rules s a
  .obtain rfl:=mem_singleton.1 a;exact⟨i,j,A,A',h1,d,f,k⟩
 .rw[map_append];refine nodup_append.2 ⟨h.aV,by simp,fun x m y c e=>?_⟩;subst e;obtain⟨s,a,rfl⟩:=mem_map.1 m;simp only[map_cons,map_nil,mem_singleton,Prod.mk.injEq]at c;exact hw.bg g hm a (c.1▸h1) (c.2▸d)
theorem ur (b:cC)(v:Value)(w:World)(h:dm w w.heap.size v b):
  Calls prog 75 #[v] w (oX b w):=by
 obtain⟨a,c,a',c',rfl,hn,hr,hA,hR⟩:=h;unfold maxLen at hn hr;have bD:= @run_makeMap prog;go_enter func75,ntmps75;have aG:Box (w.alloc (.cells #[.slice a b.ae.length c,.slice a' b.rules.length c'] 25)) w.heap.size [.slice a b.ae.length c,.slice a' b.rules.length c']:=Box.new _ _ _;obtain⟨x0,x1⟩:=aG.c2;by_cases hlen:1<=b.ae.length/\b.ae.length<=8;case neg=>
  have aC:¬cU b:=fun d=>hlen ⟨d.scr.one,d.scr.most⟩;have f:=bP aC;clear aC;by_cases h1:1<=b.ae.length
  .have h8:8<b.ae.length:=by omega
   clear hlen;go_wp2_with fail;go_ret2;exact gE f.out (bX.alloc bW _)
  .have h0:b.ae.length<1:=by omega
   clear hlen;go_wp2_with fail;go_ret2;exact gE f.out (bX.alloc bW _)
 obtain⟨h1,h8⟩:=hlen;go_wp2_with fail;obtain⟨W1,Y⟩:∃W1:World,W1=(w.alloc (.cells #[.slice a b.ae.length c,.slice a' b.rules.length c'] 25)).alloc (.map #[] 0):=⟨_,rfl⟩;rw[<-Y];have bt:Below w.heap.size w W1:=by rw[Y];exact(bX.alloc bW _).alloc (by simp) _
 have dO:W1.heap.size=w.heap.size+2:=by rw[Y];simp
 have bw:Box W1 w.heap.size [.slice a b.ae.length c,.slice a' b.rules.length c']:=by rw[Y];exact aG.alloc (by simp) _
 have cd:ch W1 (w.heap.size+1) dR (fe (b.names.take 0)):=by
  rw[Y];have:=ch.made (w.alloc (.cells #[.slice a b.ae.length c,.slice a' b.rules.length c'] 25)) dR;simpa [fe]using this
 have bE:b.names.length=b.ae.length:=by unfold cC.names;rw[length_map]
 have cT:=bP cd;have Hk:=bP (fun(wr:World) (E:Below (w.heap.size+1) W1 wr)=>And.intro (bw.below E (by omega)).c2 (And.intro (bt.trans (E.mono (by omega))) (And.intro (hA.below (bt.trans (E.mono (by omega))) bW) (hR.below (bt.trans (E.mono (by omega))) bW))));have cY:=bP (@run_makeMap prog);have HA:=bP hA;clear Y cd bw aG x0 x1 hR bD hA;go_loopw [35] (fun i wr=>∃k:Nat,k<=b.ae.length/\i= .int .i64 k/\(∀(j:Nat) A,j<k->b.ae[j]?=some A->cG A)/\(b.names.take k).Nodup/\ch wr (w.heap.size+1) dR (fe (b.names.take k))/\Below (w.heap.size+1) W1 wr) (fun i _=>b.ae.length-(intOf i).toNat);case atStart=>exact⟨0,zero_le _,rfl,by simp,by simp,cT.out,bX⟩
 case round=>
  obtain⟨k,hk,rfl,aD,a1,hM,E⟩:=hrel;have Q:=bP aD;have ba:=bP a1;have P:=bP hM;have dU:=E.size;clear aD a1 hM;by_cases cq:k<b.ae.length
  .obtain⟨⟨x0,x1⟩,ay,cc,aS⟩:=Hk.out wr E;obtain⟨A,aP⟩:∃A,b.ae[k]?=some A:=⟨_,getElem?_eq_getElem cq⟩;obtain⟨g,o,M,lc,sa,sc,rfl,hg,c0,c1,c2,c8⟩:=cc.get aP;have b8:=bP (show b.names[k]?=some A.name by unfold cC.names;rw[getElem?_map,aP];rfl);have b1:=bP aP;clear cc aS aP;obtain⟨W3,T⟩:∃W3:World,W3=wr.alloc (.cells #[.string A.name,.slice M A.letters.length lc,.slice sa A.small.length sc] 83):=⟨_,rfl⟩;have aU:Below wr.heap.size wr W3:=by rw[T];exact bX.alloc bW _
   have dP:W3.heap.size=wr.heap.size+1:=by rw[T];simp
   have ao:=ch.below P.out aU (ch.lt P.out);have ah:=ay.trans (aU.mono (by omega));have cD:=E.trans (aU.mono (by omega));have bf:cH W3 W3.heap.size (.agg #[.string A.name,.slice M A.letters.length lc,.slice sa A.small.length sc]) A:=(c8.below aU (by have:=ay.size;omega)).more (by have:=ah.size;omega);have aK:Box W3 wr.heap.size [.string A.name,.slice M A.letters.length lc,.slice sa A.small.length sc]:=by rw[T];exact Box.new _ _ _
   by_cases N:A.name∈b.names.take k
   .obtain⟨i,n⟩:=getElem?_of_mem N;have aY:=gQ ao n;have f:=bP (show¬cU b from fun d=>by
     have a1:=d.scr.names;have az:=b8.out;rw[getElem?_take]at n;split at n
     .rename_i dJ;obtain⟨q1,D⟩:=List.getElem?_eq_some_iff.1 n;obtain⟨r1,r2⟩:=List.getElem?_eq_some_iff.1 az;have:=(getElem_inj a1).1 (D.trans r2.symm);omega
     .cases n)
    rw[T]at aY;clear N n ao bf aK;go_wp2_with fail;go_ret2;exact gE f.out (by rw[<-T];exact ah)
   .have aY:=gP ao N;rw[T]at aY;have b6:=bP N;have b2:=bP ao;clear N ao;go_wp2_with fail;rw[<-T];refine(iX A _ W3 bf).mono ?_;rintro e w4 ⟨rfl,aw⟩;have bu:=cD.trans (aw.mono (by omega));have cF:=ah.trans (aw.mono ah.size);obtain⟨y0,y1,y2⟩:=(aK.below aw (by omega)).c3;have bp:=ch.below b2.out aw (ch.lt b2.out);clear aY bf aK aw c0 c1 c2;by_cases d:cG A
    .rw[decide_eq_true d];have aC:∀p∈fe (b.names.take k),p.1≠.string A.name:=fun p hp he=>by
      obtain⟨i,s,n,rfl⟩:=mQ.1 hp;have:s=A.name:=by simpa using he
      subst this;exact b6.out (mem_of_getElem? n)
     obtain⟨w6,bG,cg,cp,df⟩:=ch.aB bp iP underlying135 (key:= .string A.name) (oh _) aC (.int .i64 (k:Int));have cE:Below (w.heap.size+1) W1 w6:=bu.grown cp (by have:=bu.size;omega) (fun j X=>by cases X;exact bW);have az:k<b.names.length:=by rw[bE];exact cq
     have t:=bP (show(∀(j:Nat) A,j<k+1->b.ae[j]?=some A->cG A)/\(b.names.take (k+1)).Nodup/\ch w6 (w.heap.size+1) dR (fe (b.names.take (k+1)))from by
      have e1:b.names[k]=A.name:=by
       have:=b8.out;rw[getElem?_eq_getElem az]at this;exact Option.some.inj this
      refine⟨fun j A' X an=>?_,?_,?_⟩
      .rcases Nat.lt_succ_iff_lt_or_eq.1 X with h |rfl
       .exact Q.out j A' h an
       .rw[b1.out]at an;obtain rfl:=Option.some.inj an;exact d
      .rw[take_succ_eq_append_getElem az,e1];refine nodup_append.2 ⟨ba.out,by simp,fun y hy z hz e=>?_⟩;have:z=A.name:=by simpa using hz
       subst this;subst e;exact b6.out hy
      .rw[sJ _ _ az,e1];exact cg)
     clear aC cg cp df bp d;go_wp2_with fail;exact⟨⟨k+1,by omega,by go_num,t.out.1,t.out.2.1,t.out.2.2,cE⟩,by simp[intOf];omega⟩
    .rw[decide_eq_false d];have f:=bP (show¬cU b from fun h=>d (h.scr.aI A (mem_of_getElem? b1.out)));clear d bp;go_wp2_with fail;go_ret2;exact gE f.out cF
  .obtain rfl:k=b.ae.length:=by omega
   have bH:qt b:=⟨h1,h8,fun A an=>by
    obtain⟨i,n⟩:=getElem?_of_mem an;exact Q.out i A (List.getElem?_eq_some_iff.1 n).1 n,by have:=ba.out;rwa [<-bE,take_length]at this⟩
   have bb:=bP bH;have b3:=bP (show ch wr (w.heap.size+1) dR (fe b.names) by have:=P.out;rwa [<-bE,take_length]at this);obtain⟨⟨x0,x1⟩,ay,_,_⟩:=Hk.out wr E;have bD:=cY.out;have dM:w.heap.size<wr.heap.size:=by omega
   clear bH Q ba P;go_wp2_with fail;obtain⟨u,rfl⟩:∃u:World,u=wr:=⟨_,rfl⟩;obtain⟨V,au⟩:∃V:World,V=u.alloc (.map #[] 0):=⟨_,rfl⟩;rw[<-au];have dc:Below u.heap.size u V:=by rw[au];exact bX.alloc bW _
   have dQ:V.heap.size=u.heap.size+1:=by rw[au];simp
   have cf:ch V u.heap.size oW []:=by rw[au];exact ch.made _ _
   have cV:=bP cf;have b7:=bP (fun(C:World) (aX:Below u.heap.size V C)=>have hx:=dc.trans (aX.mono bW);And.intro (Hk.out C (E.trans (hx.mono (by omega)))) (ch.below b3.out hx (ch.lt b3.out)));clear au cf bD x0 x1;go_loopw [62] (fun i wr=>∃(k:Nat) (es:List (Value×Value)),k<=b.rules.length/\i= .int .i64 k/\fO b (b.rules.take k)/\ch wr u.heap.size oW es/\eK wr w.heap.size b (b.rules.take k) es/\Below u.heap.size V wr/\u.heap.size<wr.heap.size) (fun i _=>b.rules.length-(intOf i).toNat);case atStart=>exact⟨0,[],zero_le _,rfl,⟨by simp,by simp⟩,cV.out,⟨rfl,by simp⟩,bX,by omega⟩
   case round=>
    obtain⟨k,es,hk,rfl,aD,hM,bI,aX,dz⟩:=hrel;have Q:=bP aD;have P:=bP hM;have G:=bP bI;obtain⟨⟨⟨x0,x1⟩,ai,dH,cm⟩,ar⟩:=b7.out wr aX;clear aD hM bI;by_cases bA:k<b.rules.length
    .obtain⟨R,aR⟩:∃R,b.rules[k]?=some R:=⟨_,getElem?_eq_getElem bA⟩;obtain⟨g,o,M,lc,rfl,hg,c0,c1,c2,ck⟩:=cm.get aR;have b4:=bP aR;have aN:=bP (mem_of_getElem? aR);have b5:=bP ck;clear cm aR ck;obtain⟨O,Z⟩:∃O:World,O=wr.alloc (.cells #[.string R.src,.string R.dst,.slice M R.list.length lc] 91):=⟨_,rfl⟩;have aW:Below wr.heap.size wr O:=by rw[Z];exact bX.alloc bW _
     have dS:O.heap.size=wr.heap.size+1:=by rw[Z];simp
     have bx:Box O wr.heap.size [.string R.src,.string R.dst,.slice M R.list.length lc]:=by rw[Z];exact Box.new _ _ _
     obtain⟨v1,t1,bB,di⟩:=sC (b:=b) R.src;obtain⟨v2,t2,bC,cw⟩:=sC (b:=b) R.dst;obtain⟨s0,s1,ra,rn,rc,t3,U,aE⟩:=pP es (v1,v2) G.out.bz;have e1:=bB O (w.heap.size+1) (ar.below aW ar.lt);have e2:=bC O (w.heap.size+1) (ar.below aW ar.lt);have e3:=U O u.heap.size (ch.below P.out aW (ch.lt P.out));rw[Z]at e1 e2 e3;clear bB bC U ar;go_wp2_with fail;rw[<-Z]at e1 e2 e3⊢;obtain⟨l,aT⟩:∃l:World,l=O.alloc (.cells #[.string s0,.string s1,.slice ra rn rc] 91):=⟨_,rfl⟩;rw[<-aT];have cn:Below O.heap.size O l:=by rw[aT];exact bX.alloc bW _
     have dT:l.heap.size=O.heap.size+1:=by rw[aT];simp
     have H:=aW.trans (cn.mono (by omega));have aj:Below u.heap.size V l:=aX.trans (H.mono (by omega));have cX:=bP (fun(C:World) (J:Below l.heap.size l C)=>And.intro (b7.out C (aj.trans (J.mono (by have:=aj.size;omega)))) (And.intro ((bx.below cn (by omega)).below J (by omega)).c3 (H.trans (J.mono H.size))));clear aT Z bx e1 e2 e3 c0 c1 c2 x0 x1;obtain⟨⟨⟨⟨x0,x1⟩,I,S,db⟩,_⟩,⟨y0,y1,y2⟩,_⟩:=cX.out l bX;clear db;rcases di with ⟨rfl,i,A,n,rfl⟩ |⟨rfl,cr,rfl⟩;case inr=>
      have f:=bP (show¬cU b from fun d=>by
       obtain⟨i,j,A,A',q1,_⟩:=d.rls.rules R aN.out;exact cr (cC.br q1))
      clear cw aE cr S;go_quiet (fail);go_wp2;go_ret2;exact gE f.out (Go.below_drewN I _)
     rcases cw with ⟨rfl,j,A',X,rfl⟩ |⟨rfl,ct,rfl⟩;case inr=>
      have f:=bP (show¬cU b from fun d=>by
       obtain⟨i,j,A,A',_,q1,_⟩:=d.rls.rules R aN.out;exact ct (cC.br q1))
      clear aE ct S n;go_quiet (fail);go_wp2;go_ret2;exact gE f.out (Go.below_drewN I _)
     have x:=bQ n X;rcases aE with ⟨rfl,ab⟩ |⟨rfl,ab⟩
     .have f:=bP (show¬cU b from fun d=>by
       obtain⟨r,hr,A2,cS,q1,D,_⟩:=G.out.has ab;obtain⟨m,hm⟩:=getElem?_of_mem hr;have aZ:=(List.getElem?_eq_some_iff.1 hm).1;rw[length_take]at aZ;rw[getElem?_take,if_pos (by omega)]at hm;have eA:A=A2:=Option.some.inj (x.out.1.1.symm.trans q1.1);have eB:A'=cS:=Option.some.inj (x.out.2.1.symm.trans D.1);subst eA eB;have e1:r.src=R.src:=q1.2.symm.trans x.out.1.2;have e2:r.dst=R.dst:=D.2.symm.trans x.out.2.2;obtain⟨m1,m2⟩:=List.getElem?_eq_some_iff.1 hm;obtain⟨k1,k2⟩:=List.getElem?_eq_some_iff.1 b4.out;have:m=k:=by
        refine(getElem_inj (h₀:=by simpa using m1) (h₁:=by simpa using k1) d.rls.aV).1 ?_;rw[getElem_map,getElem_map,m2,k2,e1,e2]
       omega)
      clear n X ab S;go_quiet (fail);go_wp2;go_ret2;exact gE f.out (Go.below_drewN I _)
     by_cases aA:i=j
     .have d1:((i:Int)==(j:Int))=true:=by rw[aA];simp
      have f:=bP (show¬cU b from fun d=>by
       obtain⟨i',j',B,B',q1,D,q3,_⟩:=d.rls.rules R aN.out;obtain⟨rfl,_⟩:=cC.aq d.scr.names x.out.1 q1;obtain⟨rfl,_⟩:=cC.aq d.scr.names x.out.2 D;exact q3 aA)
      clear n X ab S aA;go_quiet (fail);go_wp2;go_ret2;exact gE f.out (Go.below_drewN I _)
     have d1:((i:Int)==(j:Int))=false:=by rw[beq_eq_false_iff_ne];omega
     have cZ:=bP aA;have b9:=bP ab;have dK:i<b.ae.length:=(List.getElem?_eq_some_iff.1 n.1).1;have dL:j<b.ae.length:=(List.getElem?_eq_some_iff.1 X.1).1;obtain⟨g1,F,bK,bM,bO,bS,ea,dI,p0,p1,p2,ca⟩:=S.get n.1;obtain⟨g2,o2,bL,bN,bR,bT,c6,dd,q0,q1,D,cb⟩:=S.get X.1;subst ea;obtain⟨rfl,rfl⟩:g1=g2/\F=o2:=by simpa using c6
     have a6:=I.size;have aS:dY l l.heap.size (.agg #[.string R.src,.string R.dst,.slice M R.list.length lc]) R:=(b5.out.below H (by have:=ai.size;omega)).more a6;have bh:=ca.more a6;have bj:=cb.more a6;have HS:=bP (fun(C:World) (aa:Below l.heap.size l C)=>(show(C.cell? ⟨w.heap.size,0,none⟩=some (.slice (some ⟨g1,F,none⟩) b.ae.length c)/\C.cell? ⟨wr.heap.size,0,none⟩=some (.string R.src)/\C.cell? ⟨wr.heap.size,1,none⟩=some (.string R.dst)/\C.cell? ⟨wr.heap.size,2,none⟩=some (.slice M R.list.length lc)/\
       C.cell? ⟨g1,F+i*3,none⟩=some (.string A.name)/\C.cell? ⟨g1,F+i*3+1,none⟩=some (.slice bK A.letters.length bM)/\C.cell? ⟨g1,F+i*3+2,none⟩=some (.slice bO A.small.length bS)/\
       C.cell? ⟨g1,F+j*3,none⟩=some (.string A'.name)/\C.cell? ⟨g1,F+j*3+1,none⟩=some (.slice bL A'.letters.length bN)/\C.cell? ⟨g1,F+j*3+2,none⟩=some (.slice bR A'.small.length bT))from by
      have k:∀(g i:Nat),g<l.heap.size->C.cell? ⟨g,i,none⟩=l.cell? ⟨g,i,none⟩:=fun g i hg=>aa.cell (p:=⟨g,i,none⟩) hg;exact⟨(k _ _ (by omega)).trans x0,(k _ _ (by omega)).trans y0,(k _ _ (by omega)).trans y1,(k _ _ (by omega)).trans y2,(k _ _ (by omega)).trans p0,(k _ _ (by omega)).trans p1,(k _ _ (by omega)).trans p2,(k _ _ (by omega)).trans q0,(k _ _ (by omega)).trans q1,(k _ _ (by omega)).trans D⟩))
     have HV:=bP (show dY l.drew l.drew.heap.size (.agg #[.string R.src,.string R.dst,.slice M R.list.length lc]) R/\cH l.drew l.drew.heap.size (.agg #[.string A.name,.slice bK A.letters.length bM,.slice bO A.small.length bS]) A/\cH l.drew l.drew.heap.size (.agg #[.string A'.name,.slice bL A'.letters.length bN,.slice bR A'.small.length bT]) A' from
      have hd:=(Below.refl l.heap.size l).drew;⟨aS.below hd bW,bh.below hd bW,bj.below hd bW⟩)
     clear n X ab S ca cb aS bh bj aA dd;go_region_held3 (fun w'=>w'.cell? ⟨w.heap.size,0,none⟩=some (.slice (some ⟨g1,F,none⟩) b.ae.length c)/\w'.cell? ⟨wr.heap.size,0,none⟩=some (.string R.src)/\w'.cell? ⟨wr.heap.size,1,none⟩=some (.string R.dst)/\w'.cell? ⟨wr.heap.size,2,none⟩=some (.slice M R.list.length lc)/\
       w'.cell? ⟨g1,F+i*3,none⟩=some (.string A.name)/\w'.cell? ⟨g1,F+i*3+1,none⟩=some (.slice bK A.letters.length bM)/\w'.cell? ⟨g1,F+i*3+2,none⟩=some (.slice bO A.small.length bS)/\
       w'.cell? ⟨g1,F+j*3,none⟩=some (.string A'.name)/\w'.cell? ⟨g1,F+j*3+1,none⟩=some (.slice bL A'.letters.length bN)/\w'.cell? ⟨g1,F+j*3+2,none⟩=some (.slice bR A'.small.length bT))
      (first |exact⟨x0,y0,y1,y2,p0,p1,p2,q0,q1,D⟩ |exact cv |go_keep)
      (first |(go_at_call 129;refine(rW R A A' _ _ _ l.drew HV.out.1 HV.out.2.1 HV.out.2.2).mono ?_;rintro e w9 ⟨rfl,aa⟩;have af:=(Below.refl l.heap.size l).drew.trans (aa.mono bW);have cv:=HS.out w9 af) |fail)
     obtain⟨dV,dW,dX,dZ, -, -, -, -, -, -⟩:=cv;have aH:Below wr.heap.size wr w9:=H.trans (af.mono H.size);have cI:Below w.heap.size w w9:=I.trans (af.mono a6);have J:Below u.heap.size V w9:=aj.trans (af.mono (by have:=aj.size;omega));clear x0 x1 y0 y1 y2 p0 p1 p2 q0 q1 D aa;by_cases L:dr R A A'
     .rw[decide_eq_true L];have cj:=ch.below P.out aH (ch.lt P.out);obtain⟨aF,bG,bm,aL,cL⟩:=ch.aB cj vo underlying131 (key:=ttV ((i:Int),(j:Int))) ⟨_,rfl⟩ b9.out (.agg #[.string R.src,.string R.dst,.slice M R.list.length lc]);have bV:Below u.heap.size V aF:=J.grown aL (by have:=J.size;omega) (fun y hy=>by cases hy;exact bW);have ag:Below u.heap.size wr aF:=(aH.mono (by omega)).grown aL (by have:=aH.size;omega) (fun y hy=>by cases hy;exact bW);have bY:u.heap.size<aF.heap.size:=by have:=ag.size;omega
      have t:=bP (show fO b (b.rules.take (k+1))/\ch aF u.heap.size oW (es++[(ttV ((i:Int),(j:Int)),.agg #[.string R.src,.string R.dst,.slice M R.list.length lc])])/\eK aF w.heap.size b (b.rules.take (k+1)) (es++[(ttV ((i:Int),(j:Int)),.agg #[.string R.src,.string R.dst,.slice M R.list.length lc])])from by
       have dh:b.rules.take (k+1)=b.rules.take k++[R]:=by
        rw[take_succ_eq_append_getElem bA];have:=b4.out;rw[getElem?_eq_getElem bA]at this;rw[Option.some.inj this]
       have cx:=ay.size;rw[dh];exact⟨fO.snoc bb.out.names Q.out G.out x.out.1 x.out.2 cZ.out L b9.out,bm,(G.out.below ag cx).snoc x.out.1 x.out.2 (b5.out.below ag cx)⟩)
      unfold ttV at bG;clear cj bm aL cL L;go_wp2_with fail;exact⟨⟨k+1,_,by omega,by go_num,t.out.1,t.out.2.1,t.out.2.2,bV,bY⟩,by simp[intOf];omega⟩
     .rw[decide_eq_false L];have f:=bP (show¬cU b from fun d=>by
       obtain⟨i',j',B,B',q1,D,q3,q4⟩:=d.rls.rules R aN.out;obtain⟨rfl,rfl⟩:=cC.aq d.scr.names x.out.1 q1;obtain⟨rfl,rfl⟩:=cC.aq d.scr.names x.out.2 D;exact L q4)
      clear L;go_wp2_with fail;go_ret2;exact gE f.out cI
    .obtain rfl:k=b.rules.length:=by omega
     have cu:fO b b.rules:=by have:=Q.out;rwa [take_length]at this
     have c5:=bP cu;have aO:=bP (show eK wr w.heap.size b b.rules es by have:=G.out;rwa [take_length]at this);clear cu Q G;go_wp2_with fail;obtain⟨wp,rfl⟩:∃wp:World,wp=wr:=⟨_,rfl⟩;clear x0 x1;go_loopw [19] (fun i wr=>∃m:Nat,1<=m/\m<=b.ae.length/\i= .int .i64 m/\(∀q:Nat,1<=q->q<m->∃v,(ttV ((q:Int),0),v)∈es)/\Below wp.heap.size wp wr) (fun i _=>b.ae.length-(intOf i).toNat);case atStart=>exact⟨1,bW,h1,rfl,fun q _ _=>by omega,bX⟩
     case round=>
      obtain⟨m,de,hm,rfl,bq,ax⟩:=hrel;have a8:=bP bq;have aJ:=ai.trans (ax.mono ai.size);have aQ:=ch.below P.out ax (ch.lt P.out);clear bq;by_cases aZ:m<b.ae.length
      .obtain⟨s0,s1,ra,rn,rc,t3,U,aE⟩:=pP es ((m:Int),0) aO.out.bz;have e3:=U wr u.heap.size aQ;have aa:Below w.heap.size w (wr.alloc (.cells #[.string s0,.string s1,.slice ra rn rc] 91)):=aJ.alloc aJ.size _;have cB:Below wp.heap.size wp (wr.alloc (.cells #[.string s0,.string s1,.slice ra rn rc] 91)):=ax.alloc ax.size _;clear U aQ;rcases aE with ⟨rfl,N⟩ |⟨rfl,bF⟩
       .have t:=bP (show∀q:Nat,1<=q->q<m+1->∃v,(ttV ((q:Int),0),v)∈es from fun q h1 h2=>by
         rcases Nat.lt_succ_iff_lt_or_eq.1 h2 with h |rfl
         .exact a8.out q h1 h
         .exact⟨_,N⟩)
        clear N;go_wp2_with fail;exact⟨⟨m+1,by omega,by omega,by go_num,t.out,cB⟩,by simp[intOf];omega⟩
       .have f:=bP (show¬cU b from fun d=>by
         have h0:b.ae[0]?=some b.ae[0]:=getElem?_eq_getElem (by omega);obtain⟨r,hr,q1,D⟩:=d.base m _ _ de (getElem?_eq_getElem aZ) h0;exact aO.out.bg d.scr.names (i:=m) (j:=0) bF hr ⟨getElem?_eq_getElem aZ,q1.symm⟩ ⟨h0,D.symm⟩)
        clear bF;go_wp2_with fail;go_ret2;exact gE f.out aa
      .have dN:m=b.ae.length:=by omega
       have Hv:=bP (show cU b from⟨bb.out,c5.out,fun i A B n hA hB=>by
        obtain⟨v,d⟩:=a8.out i n (by have:=(List.getElem?_eq_some_iff.1 hA).1;omega);obtain⟨r,hr,A1,B1,q1,D,_⟩:=aO.out.has (i:=i) (j:=0) d;obtain rfl:=Option.some.inj (hA.symm.trans q1.1);obtain rfl:=Option.some.inj (hB.symm.trans D.1);exact⟨r,hr,q1.2.symm,D.2.symm⟩⟩)
       have HW:=bP (aO.out.below ax (ai.size));have cW:=bP aQ;clear aQ;go_wp2_with fail;go_ret2;exact BJ Hv.out (by have:=ay.size;omega) cW.out HW.out aJ
end
end Go.Proofs.YtmhdgddjeadjjaaGreatDoor
