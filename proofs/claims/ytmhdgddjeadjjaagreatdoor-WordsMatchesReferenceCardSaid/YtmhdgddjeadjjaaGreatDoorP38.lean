/- A part of the proof: what the claim reaches. -/
import Derived.Test.YtmhdgddjeadjjaaGreatDoorP31
import Derived.Test.YtmhdgddjeadjjaaGreatDoorP37
namespace Go.Proofs.YtmhdgddjeadjjaaGreatDoor
open _root_.List Go.Lib _root_.Nat Go.World _root_.Int Go.Proofs.Tryz
section
open Go.RowKit Go.Shelf Classical
def pR:cr:=⟨⟨#[]⟩,[],[]⟩
theorem yV (w:World)(B:Nat):cH w B (.agg #[.string ⟨#[]⟩,.slice none 0 0,.slice none 0 0]) pR:=
 ⟨none,0,none,0,rfl,by unfold maxLen;decide,by unfold maxLen;decide,by unfold maxLen;decide,fun s a=>by simp[pR]at a,fun h=>by simp[pR,strs]at h,fun h=>by simp[pR,nums]at h⟩
set_option maxRecDepth 100000
set_option maxHeartbeats 4000000
theorem Bj (b:cC)(v:Value)(w:World)(h:dm w w.heap.size v b):
  Calls prog 21 #[v] w fun e w'=>lX True e/\Below w.heap.size w w':=by
 obtain⟨a,c,E,J,rfl,M,N,u,y⟩:=h;unfold maxLen at M N;go_enter func21,ntmps21;go_upto_region 1 with (fail);generalize s:(w.alloc _)=m;have l:Below w.heap.size w m:=by rw[<-s];exact bX.alloc bW _
 have C:Box m w.heap.size [.slice a b.ae.length c,.slice E b.rules.length J]:=by rw[<-s];exact Box.new w _ 25
 have U:m.heap.size=w.heap.size+1:=by rw[<-s];simp
 have D:=bP (fun(wr:World) (L:Below m.heap.size m wr)=>(show(wr.cell? ⟨w.heap.size,0,none⟩=some (.slice a b.ae.length c)/\wr.cell? ⟨w.heap.size,1,none⟩=some (.slice E b.rules.length J))/\eS wr wr.heap.size a b.ae/\gL wr wr.heap.size E b.rules/\Below w.heap.size w wr from by
  have d:Below w.heap.size w wr:=l.trans (L.mono l.size);exact⟨(C.below L (by omega)).c2,(u.below d bW).more d.size,(y.below d bW).more d.size,d⟩))
 clear s l C u y;obtain⟨⟨m0,m1⟩, -, -,l⟩:=D.out m bX;by_cases V:b.ae.length<=4;case neg=>
  go_wp2_with fail;go_ret;exact⟨jf (fun _=>trivial),l⟩
 by_cases X:b.rules.length<=6;case neg=>
  go_wp2_with fail;go_ret;exact⟨jf (fun _=>trivial),l⟩
 go_wp2_with fail;clear l m0 m1;go_loopw [3] (fun i wr=>∃k:Nat,k<=b.ae.length/\i= .int .i64 k/\Below m.heap.size m wr) (fun i _=>b.ae.length-(intOf i).toNat);case atStart=>exact⟨0,zero_le _,rfl,bX⟩
 case round=>
  obtain⟨k,hk,rfl,f⟩:=hrel;obtain⟨⟨m0,m1⟩,u, -,d⟩:=D.out wr f;by_cases x:k<b.ae.length
  .obtain⟨A,z⟩:∃A,b.ae[k]?=some A:=⟨_,getElem?_eq_getElem x⟩;obtain⟨g,o,Q,fc,Y,Z,rfl,P,G,q1,H,r⟩:=u.get z;have t:=bP (pD _ A wr r);have p:=bQ f d;have F:=f.size;clear z r f d;by_cases T:A.letters.length<=30
   .go_wp2_with fail;refine t.out.mono ?_;rintro e S ⟨rfl,j⟩;have q:=bQ (p.out.1.trans (j.mono F)) (p.out.2.trans (j.mono p.out.2.size));clear j t m0 m1 G q1 H;by_cases n:nI A
    .rw[decide_eq_true n];clear n;go_wp2_with fail;exact⟨⟨k+1,by omega,by go_num,q.out.1⟩,by simp[intOf];omega⟩
    .rw[decide_eq_false n];clear n;go_wp2_with fail;go_ret;exact⟨jf (fun _=>trivial),q.out.2⟩
   .go_wp2_with fail;go_ret;exact⟨jf (fun _=>trivial),p.out.2⟩
  .obtain rfl:k=b.ae.length:=by omega
   have I:=bP f;clear u d f;obtain⟨O,rfl⟩:∃O:World,O=wr:=⟨_,rfl⟩;go_wp2_with fail;clear m0 m1;go_loopw [4] (fun i wr=>∃k:Nat,k<=b.rules.length/\i= .int .i64 k/\Below m.heap.size m wr) (fun i _=>b.rules.length-(intOf i).toNat);case atStart=>exact⟨0,zero_le _,rfl,I.out⟩
   case round=>
    obtain⟨k,hk,rfl,f⟩:=hrel;obtain⟨⟨m0,m1⟩, -,y,d⟩:=D.out wr f;by_cases x:k<b.rules.length
    .obtain⟨R,B⟩:∃R,b.rules[k]?=some R:=⟨_,getElem?_eq_getElem x⟩;obtain⟨g,o,Q,lc,rfl,P,G,q1,H,r⟩:=y.get B;have t:=bP (Bh R pR pR 14 _ _ _ wr r (yV wr _) (yV wr _));have p:=bQ f d;have F:=f.size;clear B r f d;go_wp2_with fail;refine t.out.mono ?_;rintro e S ⟨rfl,j⟩;have q:=bQ (p.out.1.trans (j.mono F)) (p.out.2.trans (j.mono p.out.2.size));clear j t m0 m1 G q1 H;by_cases n:qn R pR pR 14
     .rw[decide_eq_true n];clear n;go_wp2_with fail;exact⟨⟨k+1,by omega,by go_num,q.out.1⟩,by simp[intOf];omega⟩
     .rw[decide_eq_false n];clear n;go_wp2_with fail;go_ret;exact⟨jf (fun _=>trivial),q.out.2⟩
    .go_wp2_with fail;go_ret;exact⟨jf (fun _=>trivial),d⟩
theorem Bk (b:cC)(v:Value)(lang text:ByteArray)(i:Int)(m:lang.size<=maxLen)(n:text.size<=maxLen)(w:World)(h:dm w w.heap.size v b):
  Calls prog 5 #[v,jY lang i text,jY lang i text] w fun e w'=>lX (text.size<=450) e/\Below w.heap.size w w':=by
 unfold maxLen at m n;have x:=h;obtain⟨a,c,s,t,rfl,D,E,y,z⟩:=h;unfold jY;go_enter func5,ntmps5;go_upto_region 1 with (fail);generalize d:(((w.alloc _).alloc _).alloc _)=j;have g:Below w.heap.size w j:=by rw[<-d];exact((bX.alloc bW _).alloc (by simp) _).alloc (by simp;omega) _
 have F:j.heap.size=w.heap.size+3:=by rw[<-d];simp
 have r:Box j w.heap.size [.slice a b.ae.length c,.slice s b.rules.length t]:=by
  rw[<-d];exact((Box.new _ _ _).alloc (by simp) _).alloc (by simp;omega) _
 have o:Box j (w.heap.size+1) [.string lang,.int .i64 i,.string text]:=by
  rw[<-d];have:=(Box.new (w.alloc (.cells #[.slice a b.ae.length c,.slice s b.rules.length t] 25)) [.string lang,.int .i64 i,.string text] 27);simp at this;exact this.alloc (by simp) _
 have p:Box j (w.heap.size+2) [.string lang,.int .i64 i,.string text]:=by
  rw[<-d];have:=(Box.new ((w.alloc (.cells #[.slice a b.ae.length c,.slice s b.rules.length t] 25)).alloc (.cells #[.string lang,.int .i64 i,.string text] 27)) [.string lang,.int .i64 i,.string text] 27);simp at this;exact this
 clear d;obtain⟨B,C⟩:=r.c2;have u:=bP (Bj b _ j ((x.below g bW).more g.size));have k:=bS g o p;clear g o p r x y z;go_wp2_with fail;refine u.out.mono ?_;rintro e I ⟨⟨q,rfl, -⟩,f⟩;obtain⟨a0,G,a2⟩:=(k.out.2.1.below f (by omega)).c3;obtain⟨d0,d1,d2⟩:=(k.out.2.2.below f (by omega)).c3;have l:=bP (k.out.1.trans (f.mono k.out.1.size));clear B C u f k;cases q with
 |false=>
  go_wp2_with fail;go_ret;exact⟨kE _,l.out⟩
 |true=>
  by_cases A:text.size<=450
  .by_cases H:lang.size<=100
   .go_wp2_with fail;go_ret;exact⟨jf (fun _=>A),l.out⟩
   .go_wp2_with fail;go_ret;exact⟨kE _,l.out⟩
  .go_wp2_with fail;go_ret;exact⟨kE _,l.out⟩
theorem AS (a b:ByteArray):bl (a++b)=bl a++bl b:=by
 unfold bl;simp[ByteArray.data_append]
theorem rh {w a:World}{A:cr}{e f:Option Addr}{lc g:Nat}(l:cH w w.heap.size (.agg #[.string A.name,.slice e A.letters.length lc,.slice f A.small.length g]) A)
  (c:(w.alloc (.cells #[.string A.name,.slice e A.letters.length lc,.slice f A.small.length g] 83))=a):
  a.heap.size=w.heap.size+1/\∀wr,Below a.heap.size a wr->(wr.cell? ⟨w.heap.size,0,none⟩=some (.string A.name)/\wr.cell? ⟨w.heap.size,1,none⟩=some (.slice e A.letters.length lc)/\wr.cell? ⟨w.heap.size,2,none⟩=some (.slice f A.small.length g))/\
   cH wr wr.heap.size (.agg #[.string A.name,.slice e A.letters.length lc,.slice f A.small.length g]) A/\Below w.heap.size w wr:=by
 have k:Below w.heap.size w a:=by rw[<-c];exact bX.alloc bW _
 have j:a.heap.size=w.heap.size+1:=by rw[<-c];simp
 have m:Blk a w.heap.size #[.string A.name,.slice e A.letters.length lc,.slice f A.small.length g] 83:=by rw[<-c];exact Blk.new _ _ _
 refine⟨j,fun wr i=>?_⟩;have d:=k.trans (i.mono (by omega));have b:=m.below i (by omega);exact⟨⟨b.cell 0,b.cell 1,b.cell 2⟩,(l.below d bW).more d.size,d⟩
theorem tN (A:cr)(m:cG A)(v:Value)(s:ByteArray)(y:s.size<=maxLen)(w:World)(r:cH w w.heap.size v A):
  Calls prog 48 #[v,.string s] w fun e w'=>e= .returned (.bool (decide ((cB A.bls (bl s)).err=0)))/\Below w.heap.size w w':=by
 have f:=r;obtain⟨B,lc,C,D,rfl, -⟩:=r;go_enter func48,ntmps48;go_upto_region 1 with (fail);generalize i:(w.alloc _)=q;obtain⟨t,hK⟩:=rh f i;have o:=bP hK;clear i hK f t;obtain⟨⟨m0,m1,m2⟩,g, -⟩:=o.out q bX;have p:=bP (ij A (fC m).nodup (fC m).len s y _ q g);clear g m;go_wp2_with fail;refine p.out.mono ?_;rintro e z ⟨u,rfl, -,j⟩;have n:=bP (o.out z j).2.2;obtain⟨b,a⟩:∃b,(cB A.bls (bl s)).err=b:=⟨_,rfl⟩;obtain⟨l,k⟩:∃l,(cB A.bls (bl s)).off=l:=⟨_,rfl⟩;have d:=bP a;rw[a,k];clear a k j p m0 m1 m2;by_cases c:b=0
 .subst c;go_wp2_with fail;go_ret;exact⟨dP d.out,n.out⟩
 .have d1:(b==0)=false:=by simpa using c
  have x:=bP c;clear c;go_wp2_with fail;go_ret;exact⟨cj (fun h=>x.out (d.out.symm.trans h)),n.out⟩
theorem AL (A:cr)(v:Value)(s:ByteArray)(D:s.size<=maxLen)(w:World)(B:cH w w.heap.size v A):
  Calls prog 106 #[v,.string s] w (nP (dG A s) w):=by
 have m:=B;obtain⟨H,lc,J,L,rfl, -⟩:=B;go_enter func106,ntmps106;go_upto_region 1 with (fail);generalize n:(w.alloc _)=z;obtain⟨p,hK⟩:=rh m n;have l:=bP hK;have C:=bP p;clear n hK m p;obtain⟨⟨m0,m1,m2⟩,a, -⟩:=l.out z bX;have f:=jm A _ z a;by_cases c:cG A;case neg=>
  rw[decide_eq_false c]at f;have q:=bP f;have i:=bP (show dG A s=⟨[],1,0⟩ by unfold dG;rw[if_neg c]);clear c f a;go_wp2_with fail;refine q.out.mono ?_;rintro e k ⟨rfl,b⟩;have g:=bP (l.out k b).2.2;clear m0 m1 m2 b;go_wp2_with fail;go_ret3;rw[i.out];exact⟨_,rfl,ownsRow_nil _ _ _ _,g.out⟩
 rw[decide_eq_true c]at f;have q:=bP f;have y:=bP c;have i:=bP (show dG A s=cB A.bls (bl s) by unfold dG;rw[if_pos c]);clear c f a;go_wp2_with fail;refine q.out.mono ?_;rintro e k ⟨rfl,b⟩;have d:=bP b;clear m0 m1 m2 b;obtain⟨⟨m0,m1,m2⟩,a, -⟩:=l.out k d.out;have t:=bP (ij A (fC y.out).nodup (fC y.out).len s D _ k a);clear a;go_wp2_with fail;refine t.out.mono ?_;rintro e E ⟨u,rfl,j,o⟩;have g:=bQ (cP j (show w.heap.size<=k.heap.size by have:=d.out.size;have:=C.out;omega)) (l.out E (d.out.trans (o.mono d.out.size))).2.2;obtain⟨R,r⟩:∃R,cB A.bls (bl s)=R:=⟨_,rfl⟩;have x:=bP r;rw[r]at g⊢;obtain⟨I,G,F⟩:=R;clear r j o t m0 m1 m2;go_wp2_with fail;go_ret3;rw[i.out,x.out];exact⟨u,rfl,g.out.1,g.out.2⟩
theorem AK (A:cr)(v:Value)(s:ByteArray)(hs:s.size<=maxLen)(w:World)(hA:cH w w.heap.size v A):
  Calls prog 63 #[v,.string s] w (vy A s w):=by
 have Q:=hA;obtain⟨la,lc,sa,sc,rfl,hn,ao,aw,aq,O,r⟩:=hA;clear hn aq O r;unfold maxLen at ao aw;go_enter func63,ntmps63;go_upto_region 1 with (fail);generalize R:(w.alloc _)=W0;obtain⟨au,hK⟩:=rh Q R;have M:=bP hK;clear R hK Q au;obtain⟨⟨m0,m1,m2⟩,j, -⟩:=M.out W0 bX;have HQ:=bP (AL A _ s hs W0 j);clear j;go_wp2_with fail;refine HQ.out.mono ?_;rintro e w1 ⟨v1,rfl,b,S⟩;have B:=bP S;clear m0 m1 m2 S HQ;by_cases p:cG A/\(cB A.bls (bl s)).err=0;case neg=>
  have X:(dG A s).err≠0:=by
   unfold dG;split
   .rename_i d;exact fun e=>p ⟨d,e⟩
   .simp
  have d1:((dG A s).err != 0)=true:=by simpa using X
  have af:=bP p;have L:=bP (M.out w1 B.out).2.2;clear p X b;go_wp2_with fail;go_ret2;exact⟨_,_,rfl,.inr ⟨af.out,rfl,rfl⟩,L.out⟩
 obtain⟨d,P⟩:=p;have e0:dG A s=cB A.bls (bl s):=by unfold dG;rw[if_pos d]
 obtain⟨z1,z24,J,f⟩:=DI d P;have C:=ub A (bl s);obtain⟨a,H⟩:∃a,rdL A.bls (bl s)=a:=⟨_,rfl⟩;have I:(cB A.bls (bl s)).letters=a:=H;rw[H]at z1 z24 J f C;rw[e0,I]at b;rw[e0,P];obtain⟨a9,c9,rfl, -,Z⟩:=b8.ah b;have N:=bS d P C;have Hz:=bQ J f;have aa:=bP Z;have D:A.small.length=A.letters.length:=by
  obtain⟨f1,f2,f3,f4,f5,f6,f7,f8⟩:=d.1;omega
 have ag:=bP D;clear d P e0 C H I J f b Z D;go_wp2_with fail;go_loopw [9,10] (fun o i wr=>∃(k:Nat) (t:ByteArray),k<=a.length/\o= .string t/\i= .int .i64 k/\bl t=((a.map (eu A)).take k).flatMap (txt A.bls)/\t.size<=3*k/\∃q,wr=w1.drewN q) (fun _ i _=>a.length-(intOf i).toNat);case atStart=>exact⟨0,⟨#[]⟩,zero_le _,rfl,rfl,rfl,bW,0,rfl⟩
 case round=>
  obtain⟨k,t,hk,rfl,rfl,ht,aJ,q,hq⟩:=hrel;have u:=bQ ht hq;clear ht hq;by_cases l:k<a.length
  .obtain⟨⟨m0,m1,m2⟩,j, -⟩:=M.out wr (by rw[u.out.2];exact Go.below_drewN B.out q);obtain⟨g,o,rfl,hg,hc⟩:=aa.out.nums (by omega);have c0:=hc k l;obtain⟨z,c⟩:∃z,a[k]=z:=⟨_,rfl⟩;rw[c]at c0;have aE:wr.cell? ⟨g,o+k,none⟩=some (.int .i64 z):=by rw[u.out.2];exact c0
   obtain⟨aM,aN⟩:=Hz.out.1 z (by rw[<-c];exact getElem_mem l);obtain⟨m,rfl⟩:∃m:Nat,z=(m:Int):=⟨z.toNat,by omega⟩;have aH:m<A.letters.length:=by omega
   have V:m<A.small.length:=by have:=ag.out;omega
   obtain⟨aO,aP,aQ,aR,e', -, -, -, -,O,r⟩:=j;simp only[Value.agg.injEq,Array.mk.injEq,cons.injEq,Value.slice.injEq,and_true,true_and]at e';obtain⟨⟨rfl,rfl⟩,rfl,rfl⟩:=e';obtain⟨g2,o2,rfl,aF,T⟩:=r.nums (by omega);have c2:=T m V;obtain⟨y,G⟩:∃y,A.small[m]=y:=⟨_,rfl⟩;rw[G]at c2;have hy:eu A (m:Int)=y:=by unfold eu;rw[toNat_natCast,getElem?_eq_getElem V,G];rfl
   obtain⟨aK,aL⟩:=Hz.out.2 y (mem_map.2 ⟨(m:Int),by rw[<-c];exact getElem_mem l,hy⟩);obtain⟨n,rfl⟩:∃n:Nat,y=(n:Int):=⟨y.toNat,by omega⟩;have Y:n<A.letters.length:=by omega
   obtain⟨g3,o3,rfl,aG,U⟩:=O.strs (by omega);have c3:=U n Y;obtain⟨x,F⟩:∃x,A.letters[n]=x:=⟨_,rfl⟩;rw[F]at c3;have E:txt A.bls (n:Int)=bl x:=by
    unfold txt cr.bls;rw[toNat_natCast,getElem?_map,getElem?_eq_getElem Y,F];rfl
   have ay:x.size<=3:=by rw[<-b9,<-E];exact tH N.out.1 _
   have aA:∀W,(Op.stringOp .add t x).run prog W= .ok (.string (t++x)) W:=fun W=>run_string_add_sum W _ _ (by omega);have HN:=bP (show bl (t++x)=((a.map (eu A)).take (k+1)).flatMap (txt A.bls)/\(t++x).size<=3*(k+1)from by
    have an:k<(a.map (eu A)).length:=by simpa using l
    have aI:(t++x).size=t.size+x.size:=by rw[<-b9,AS,length_append,b9,b9]
    refine⟨?_,by omega⟩;rw[take_succ_eq_append_getElem an,flatMap_append,AS,u.out.1,getElem_map,c,hy];simp[E])
   clear hc T U c0 c G F hy E ay O r;go_wp2_with fail;go_quiet (fail);go_wp2_with fail;exact⟨⟨k+1,t++x,by omega,rfl,by go_num,HN.out.1,HN.out.2,_,by rw[u.out.2,drewN_drewN]⟩,by simp[intOf];omega⟩
  .obtain rfl:k=a.length:=by omega
   have L:=bP (show nk A s t 0/\Below w.heap.size w wr from⟨.inl ⟨N.out.1,N.out.2.1,by
    rw[N.out.2.2,u.out.1,take_of_length_le (by simp)],rfl⟩,(M.out wr (by rw[u.out.2];exact Go.below_drewN B.out q)).2.2⟩)
   go_wp2_with fail;go_ret2;exact⟨_,_,rfl,L.out.1,L.out.2⟩
theorem DB {A:cr}(h:cG A){t:List UInt8}(d:(cB A.bls t).err=0):t.length<=72:=by
 have a:=fC h;obtain⟨ls,h1,b,c,g,i⟩:=lM a d;have hlen:∀(ms:List (List UInt8)),(∀m∈ms,m∈A.bls)->ms.flatten.length<=3*ms.length:=fun ms=>by
  induction ms with
  |nil=>intro _;simp
  |cons m ms f=>
   intro q;have i1:=f (fun y e=>q y (mem_cons_of_mem _ e));have i2:=(a.len m (q m (mem_cons_self ..))).2;rw[flatten_cons,length_append,length_cons];omega
 have:=hlen ls b;rw[c];omega
theorem xP {s:ByteArray}{c:List ByteArray}(h:c.map bl=cA (bl s)):∀y∈c,y.size<=s.size:=fun y g=>by
 have h1:bl y∈cA (bl s):=by rw[<-h];exact mem_map_of_mem g
 have d:=lC (bl s);have f:(bl y).length<=(cA (bl s)).flatten.length:=by
  obtain⟨a,b,e⟩:=append_of_mem h1;rw[e,flatten_append,flatten_cons];simp only[length_append];omega
 rw[b9]at d f;omega
theorem p9 (b:cC)(v:Value)(lang text:ByteArray)(i:Int)(T:lang.size<=maxLen)(bh:text.size<=1000)(w:World)(h:dm w w.heap.size v b):
  Calls prog 12 #[v,jY lang i text] w fun e w'=>e= .returned (.bool (decide (dB b lang i (bl text))))/\Below w.heap.size w w':=by
 have hB:=h;obtain⟨a,c,a',c',rfl,hn,hr,Y,hR⟩:=h;unfold maxLen at hn;unfold jY;obtain⟨G,H⟩:∃G:World,G=(w.alloc (.cells #[.slice a b.ae.length c,.slice a' b.rules.length c'] 25)).alloc (.cells #[.string lang,.int .i64 i,.string text] 27):=⟨_,rfl⟩;have aK:Below w.heap.size w G:=by rw[H];exact(bX.alloc bW _).alloc (by simp) _
 have a6:G.heap.size=w.heap.size+2:=by rw[H];simp
 have al:Blk G w.heap.size #[.slice a b.ae.length c,.slice a' b.rules.length c'] 25:=by rw[H];exact(Blk.new _ _ _).alloc _
 have R:Blk G (w.heap.size+1) #[.string lang,.int .i64 i,.string text] 27:=by
  rw[H];have:=Blk.new (w.alloc (.cells #[.slice a b.ae.length c,.slice a' b.rules.length c'] 25)) #[.string lang,.int .i64 i,.string text] 27;simpa using this
 have HV:=bP (p8 b _ G ((hB.below aK bW).more (by omega)));have J:=bP (fun(wr:World) (z:Below G.heap.size G wr)=>have aj:=aK.trans (z.mono (by omega));(show(wr.cell? ⟨w.heap.size,0,none⟩=some (.slice a b.ae.length c)/\wr.cell? ⟨w.heap.size,1,none⟩=some (.slice a' b.rules.length c'))/\(wr.cell? ⟨w.heap.size+1,0,none⟩=some (.string lang)/\wr.cell? ⟨w.heap.size+1,1,none⟩=some (.int .i64 i)/\wr.cell? ⟨w.heap.size+1,2,none⟩=some (.string text))/\eS wr wr.heap.size a b.ae/\Below w.heap.size w wr from
  ⟨⟨(al.below z (by omega)).cell 0,(al.below z (by omega)).cell 1⟩,⟨(R.below z (by omega)).cell 0,(R.below z (by omega)).cell 1,(R.below z (by omega)).cell 2⟩,(Y.below aj bW).more aj.size,aj⟩))
 clear hB Y hR al R a6;go_enter func12,ntmps12;go_upto_region 1 with (fail);rw[<-H];clear H;obtain⟨⟨x0,x1⟩,⟨P,x3,Q⟩, -, -⟩:=J.out G bX;by_cases X:cU b;case neg=>
  rw[decide_eq_false X]at HV;have m:=bP (show¬dB b lang i (bl text)from fun h=>X h.be);clear X;go_wp2_with fail;refine HV.out.mono ?_;rintro e M ⟨rfl,y⟩;have V:=bP (J.out M y).2.2.2;clear y;go_wp2_with fail;go_ret;exact⟨cj m.out,V.out⟩
 rw[decide_eq_true X]at HV;have H4:=bP X;clear X;by_cases h1:df (bl lang)=true;case neg=>
  have d1:df (bl lang)=false:=by simpa using h1
  have m:=bP (show¬dB b lang i (bl text)from fun h=>h1 h.lang);clear h1;go_wp2_with fail;refine HV.out.mono ?_;rintro e M ⟨rfl,y⟩;clear x0 x1 P x3 Q;obtain⟨⟨x0,x1⟩,⟨P,x3,Q⟩, -,F⟩:=J.out M y;have HN:=bP (fL lang M T);have V:=bP F;clear y F;go_wp2_with fail;refine HN.out.mono ?_;rintro e w2 ⟨rfl,rfl⟩;rw[d1];go_wp2_with fail;go_ret;exact⟨cj m.out,V.out⟩
 go_wp2_with fail;refine HV.out.mono ?_;rintro e M ⟨rfl,y⟩;clear x0 x1 P x3 Q;obtain⟨⟨x0,x1⟩,⟨P,x3,Q⟩, -,F⟩:=J.out M y;have HN:=bP (fL lang M T);have V:=bP F;have aB:=bP y;have H1:=bP h1;clear y F;by_cases h2:0<=i;case neg=>
  have m:=bP (show¬dB b lang i (bl text)from fun h=>h2 h.script.1);have d2:decide (i<0)=true:=bZ;clear h1 h2;go_wp2_with fail;refine HN.out.mono ?_;rintro e w2 ⟨rfl,rfl⟩;rw[H1.out];go_wp2_with fail;go_ret;exact⟨cj m.out,V.out⟩
 have d2:decide (i<0)=false:=bY;by_cases h3:i<b.ae.length;case neg=>
  have m:=bP (show¬dB b lang i (bl text)from fun h=>h3 h.script.2);have aX:(b.ae.length:Int)<=i:=by omega
  have d3:decide ((b.ae.length:Int)<=i)=true:=decide_eq_true aX;clear h1 h3;go_wp2_with fail;refine HN.out.mono ?_;rintro e w2 ⟨rfl,rfl⟩;rw[H1.out];go_wp2_with fail;go_ret;exact⟨cj m.out,V.out⟩
 obtain⟨n,rfl⟩:∃n:Nat,i=n:=⟨i.toNat,by omega⟩;have a1:n<b.ae.length:=by omega
 have d3:decide ((b.ae.length:Int)<=(n:Int))=false:=bY;obtain⟨A,Y⟩:∃A,b.ae[n]?=some A:=⟨_,getElem?_eq_getElem a1⟩;have I:=bP (xg (t:=bl text) H4.out H1.out ⟨h2,h3⟩ (A:=A) (by simpa using Y));have HA:=bP Y;have aD:=nO text (by omega) M;have aV:=bP aD;clear h1 h2 h3 Y aD;go_wp2_with fail;refine HN.out.mono ?_;rintro e w2 ⟨rfl,a7⟩;subst a7;rw[H1.out];go_wp2_with fail;refine aV.out.mono ?_;rintro e O ⟨sv,u,rfl,U,an,aF⟩;obtain⟨va,vc,rfl, -,ao⟩:=b8.ah an;have ag:=aB.out.trans (aF.mono aB.out.size);have a8:u.length<=1000:=by
  have:=nj (bl text);rw[<-U,length_map,b9]at this;omega
 have D:=bQ U (xP U);have q:=bQ ao ag;clear x0 x1 P x3 Q U an aF ao ag;obtain⟨⟨x0,x1⟩,⟨P,x3,Q⟩,aE,F⟩:=J.out O q.out.2;obtain⟨g,o,la,lc,sa,sc,rfl,hg,p0,p1,p2,aC⟩:=aE.get HA.out;have HW:=bP (fun(w':World) (r:Below O.heap.size O w') (s:ByteArray) (L:s.size<=1000)=>tN A (H4.out.scr.aI A (mem_of_getElem? HA.out)) _ s (by unfold maxLen;omega) w' ((aC.below r bW).more r.size));have HF:=bP (fun(w':World) (r:Below O.heap.size O w')=>And.intro (J.out w' (q.out.2.trans (r.mono q.out.2.size))) (show w'.cell? ⟨g,o+n*3,none⟩=some (.string A.name)/\w'.cell? ⟨g,o+n*3+1,none⟩=some (.slice la A.letters.length lc)/\w'.cell? ⟨g,o+n*3+2,none⟩=some (.slice sa A.small.length sc)from
  ⟨(r.cell (p:=⟨g,_,none⟩) hg).trans p0,(r.cell (p:=⟨g,_,none⟩) hg).trans p1,(r.cell (p:=⟨g,_,none⟩) hg).trans p2⟩))
 clear aE aC p0 p1 p2 F x0 x1 P x3 Q;go_wp2_with fail;go_loopw [6] (fun j wr=>∃k:Nat,k<=u.length/\j= .int .i64 k/\(∀s∈u.take k,(cB A.bls (bl s)).err=0)/\Below O.heap.size O wr) (fun j _=>u.length-(intOf j).toNat);case atStart=>exact⟨0,zero_le _,rfl,by simp,bX⟩
 case round=>
  obtain⟨k,hk,rfl,E,z⟩:=hrel;have l:=bQ E z;clear E z;by_cases aJ:k<u.length;case neg=>
   obtain rfl:k=u.length:=by omega
   have E:∀p∈cA (bl text),(cB A.bls p).err=0:=fun p hp=>by
    rw[<-D.out.1]at hp;obtain⟨s,L,rfl⟩:=mem_map.1 hp;exact l.out.1 s (by rw[take_length];exact L)
   have hlen:(cA (bl text)).length=u.length:=by rw[<-D.out.1,length_map]
   have C:=bQ E hlen;have B:=bP (J.out wr (q.out.2.trans (l.out.2.mono q.out.2.size))).2.2.2;have x:=bP (fun(w':World) (r:Below wr.heap.size wr w')=>(show w'.cell? ⟨w.heap.size+1,2,none⟩=some (.string text)from(HF.out w' (l.out.2.trans (r.mono l.out.2.size))).1.2.1.2.2));have bg:Below wr.heap.size wr wr:=bX;clear E hlen;go_upto_region 9 with (fail);refine wp_region_held_drew (S:=fun w'=>Below wr.heap.size wr w') (by kernel_rfl) (Go.below_drewN (Below.refl _ wr) 1) (fun az=>?_);by_cases h1:1<=u.length;case neg=>
    have m:=bP (show¬dB b lang (n:Int) (bl text)from fun h=>by have:=(I.out.1 h).2.1;rw[C.out.2]at this;omega);have hz:u.length=0:=by omega
    have d1:decide ((1:Int)<=(u.length:Int))=false:=bY;clear hz h1;have f:Below wr.heap.size wr _:=Go.below_drewN (Below.refl _ wr) 1;refine tk [0,1,2,3] ?_;repeat ((refine tkt (v:=?_) ?_ ?_;rotate_left;·intro w' d;obtain s0:=x.out w' d;go_simp<;>with_reducible rfl);try simp only[pS])
    refine tkn ?_;refine tk [4,5,6] ?_;repeat ((refine tkl ?_);try simp only[pS])
    refine tkn ?_;refine tk [7,8] ?_;repeat ((refine tkt (v:=?_) ?_ ?_;rotate_left;·intro w' d;obtain s0:=x.out w' d;go_simp<;>with_reducible rfl);try simp only[pS])
    refine tkn ?_;refine tk [9,10,11,12,13] ?_;repeat ((refine tkl ?_);try simp only[pS])
    refine tkn ?_;refine tk [14,15] ?_;repeat ((refine tkt (v:=?_) ?_ ?_;rotate_left;·intro w' d;obtain s0:=x.out w' d;go_simp<;>with_reducible rfl);try simp only[pS])
    refine tkn ?_;refine wpAnyH_done (by kernel_rfl) ?_ _;go_wp2_with fail;go_ret;exact⟨cj m.out,B.out.trans (f.mono B.out.size)⟩
   have d1:decide ((1:Int)<=(u.length:Int))=true:=bZ;by_cases h6:u.length<=6;case neg=>
    have m:=bP (show¬dB b lang (n:Int) (bl text)from fun h=>by have:=(I.out.1 h).2.2.1;rw[C.out.2]at this;omega);have d2:decide ((u.length:Int)<=6)=false:=bY;clear h1 h6;have f:Below wr.heap.size wr _:=Go.below_drewN (Below.refl _ wr) 1;refine tk [0,1,2,3,4,5,6,7,8] ?_;repeat ((refine tkt (v:=?_) ?_ ?_;rotate_left;·intro w' d;obtain s0:=x.out w' d;go_simp<;>with_reducible rfl);try simp only[pS])
    refine tkn ?_;refine tk [9,10,11,12,13] ?_;repeat ((refine tkl ?_);try simp only[pS])
    refine tkn ?_;refine tk [14,15] ?_;repeat ((refine tkt (v:=?_) ?_ ?_;rotate_left;·intro w' d;obtain s0:=x.out w' d;go_simp<;>with_reducible rfl);try simp only[pS])
    refine tkn ?_;refine wpAnyH_done (by kernel_rfl) ?_ _;go_wp2_with fail;go_ret;exact⟨cj m.out,B.out.trans (f.mono B.out.size)⟩
   have d2:decide ((u.length:Int)<=6)=true:=bZ;have HJ:=bP (fun(w':World) (r:Below wr.heap.size wr w')=>(rT u va vc a8 (fun s L=>by have:=D.out.2 s L;omega) w' (((q.out.1.below (l.out.2.trans (r.mono l.out.2.size)) bW).more (l.out.2.trans (r.mono l.out.2.size)).size))));have af:=bQ h1 h6;clear h1 h6;have f:Below wr.heap.size wr _:=Go.below_drewN (Below.refl _ wr) 1;refine tk [0,1,2,3,4,5,6,7,8,9,11,12] ?_;repeat ((refine tkt (v:=?_) ?_ ?_;rotate_left;·intro w' d;obtain s0:=x.out w' d;go_simp<;>with_reducible rfl);try simp only[pS])
   refine tkn ?_;refine rd1 10 (fun K hK=>?_);go_simp;go_at_call 26;refine(HJ.out _ (f)).mono ?_;rintro e bf ⟨⟨jt,rfl,ak,aZ⟩,rfl⟩;have d3:=iJ (a:=jt) (b:=text);have HQ:=bP (show decide (jt=text)=decide (dB b lang (n:Int) (bl text))from by
    rw[decide_eq_decide,I.out];constructor
    .intro e9;refine⟨C.out.1,by rw[C.out.2];exact af.out.1,by rw[C.out.2];exact af.out.2,?_⟩;rw[<-D.out.1,<-ak,e9]
    .intro e9;refine cY (ak.trans ?_);rw[D.out.1];exact e9.2.2.2)
   clear ak aZ;refine hK.out _ _ (f) (fun _=>?_);clear hK K;try simp only[pS]
   refine tk [13,14,15] ?_;repeat ((refine tkt (v:=?_) ?_ ?_;rotate_left;·intro w' d;obtain s0:=x.out w' d;go_simp<;>with_reducible rfl);try simp only[pS])
   refine tkn ?_;refine wpAnyH_done (by kernel_rfl) ?_ _;go_wp2_with fail;go_ret;exact⟨cX HQ.out,B.out.trans (f.mono B.out.size)⟩
  obtain⟨b2,o2,rfl,aN,aH⟩:=q.out.1.strs (by omega);obtain⟨s,L⟩:∃s,u[k]=s:=⟨_,rfl⟩;have c0:=aH k aJ;rw[L]at c0;have aq:u[k]?=some s:=by rw[getElem?_eq_getElem aJ,L]
  have N:=mem_of_getElem? aq;have HS:=bQ aq N;have x:=bP (fun(w':World) (r:Below wr.heap.size wr w')=>And.intro (HF.out w' (l.out.2.trans (r.mono l.out.2.size))).1.1 (And.intro (HF.out w' (l.out.2.trans (r.mono l.out.2.size))).1.2.1 (And.intro (HF.out w' (l.out.2.trans (r.mono l.out.2.size))).2 (show w'.cell? ⟨b2,o2+k,none⟩=some (.string s)from((l.out.2.trans (r.mono l.out.2.size)).cell (p:=⟨b2,_,none⟩) aN).trans c0))));have HC:=bP (fun(w':World) (r:Below wr.heap.size wr w')=>HW.out w' (l.out.2.trans (r.mono l.out.2.size)) s (by have:=D.out.2 s N;omega));clear L aq N c0 aH;go_upto_region 7 with (fail);go_cut [49] (fun v wx=>v= .bool (!decide ((cB A.bls (bl s)).err=0))/\Below wr.heap.size wr wx);case first=>
   refine wp_region_held_drew (S:=fun w'=>Below wr.heap.size wr w') (by kernel_rfl) (Go.below_drewN (Below.refl _ wr) 1) (fun az=>?_);have f:Below wr.heap.size wr _:=Go.below_drewN (Below.refl _ wr) 1;refine tk [0,1,2,3,4,5,6,7,8,9] ?_;repeat ((refine tkt (v:=?_) ?_ ?_;rotate_left;·intro w' d;obtain⟨⟨s0,s1⟩,⟨s2,s3,s4⟩,⟨s5,s6,s7⟩,s8⟩:=x.out w' d;go_simp<;>with_reducible rfl);try simp only[pS])
   refine tkn ?_;refine rd1 10 (fun K hK=>?_);go_simp;go_at_call 48;refine(HC.out _ (f)).mono ?_;rintro e bf ⟨rfl,aO⟩;have ai:=Below.trans (f) (aO.mono (Below.size (f)));refine hK.out _ _ ai (fun _=>?_);clear hK K;try simp only[pS]
   refine tk [11] ?_;refine tkt (v:=?_) ?_ ?_;rotate_left
   .intro w' d;obtain⟨⟨s0,s1⟩,⟨s2,s3,s4⟩,⟨s5,s6,s7⟩,s8⟩:=x.out w' d;go_simp<;>with_reducible rfl
   try simp only[pS]
   refine tkn ?_;refine wpAnyH_done (by kernel_rfl) ?_ _;go_wp2_with fail;go_meet;exact⟨rfl,ai⟩
  case rest=>
   obtain⟨rfl,aG⟩:=hcut;have aA:=bP (l.out.2.trans (aG.mono l.out.2.size));have B:=bP (J.out wc (q.out.2.trans (aA.out.mono q.out.2.size))).2.2.2;clear aG x HC;by_cases Z:(cB A.bls (bl s)).err=0
   .rw[decide_eq_true Z];have HE:=bP (show∀t∈u.take (k+1),(cB A.bls (bl t)).err=0 from fun t ht=>by
     rw[take_add_one,HS.out.1,mem_append]at ht;rcases ht with ht |ht
     .exact l.out.1 t ht
     .obtain rfl:t=s:=by simpa using ht
      exact Z)
    clear Z;go_wp2_with fail;exact⟨⟨k+1,by omega,by go_num,HE.out,aA.out⟩,by simp[intOf];omega⟩
   .rw[decide_eq_false Z];have m:=bP (show¬dB b lang (n:Int) (bl text)from fun h=>Z ((I.out.1 h).1 (bl s) (by rw[<-D.out.1];exact mem_map_of_mem HS.out.2)));clear Z;go_wp2_with fail;go_ret;exact⟨cj m.out,B.out⟩
end
end Go.Proofs.YtmhdgddjeadjjaaGreatDoor
