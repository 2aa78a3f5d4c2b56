/- GV -/
import Derived.Test.YtmhdgddjeadjjaaGreatDoorP15
namespace Go.Proofs.YtmhdgddjeadjjaaGreatDoor
open _root_.List Go.Lib _root_.Nat Go.World _root_.Int Go.Proofs.Tryz
section
open Go.RowKit Classical
set_option maxRecDepth 100000
set_option maxHeartbeats 2000000
theorem lz (A:cr)(f:vr A)(s:ByteArray)(most:Nat)(l:s.size<=maxLen)(v:Value)(w:World)(h:cH w w.heap.size v A):
  Calls prog 143 #[v,.string s,.int .i64 most] w fun e w'=>
   ∃u,e= .returned (.tuple #[u,.bool (decide (eU A.bls (bl s) most))])/\
    w'.ownsRow w.heap.size 3 1 u (eL A.bls (bl s)).length (nums (eL A.bls (bl s)))/\Below w.heap.size w w':=by
 have j:=h;obtain⟨t,lc,x,y,rfl,r,m,o,n,q,p⟩:=h;go_enter func143,ntmps143;by_cases he:bl s=[]
 .have h1:=iw he;go_wp2;go_ret2;refine⟨_,kC (decide_eq_true (.inl he)).symm,?_,bX.alloc bW _⟩;rw[eL,if_pos he];exact ownsRow_nil _ _ _ _
 .have h1:=ic he;have c:=bP he;clear he;go_wp2_with fail;refine(ij A f.nodup f.len s l _ _ ((j.below (bX.alloc bW _) bW).more (by simp))).mono ?_;rintro e C ⟨u,rfl,b,d⟩;obtain⟨z,B,rfl,_⟩:=b8.ah b;have i:=bP b;clear b;by_cases a:(cB A.bls (bl s)).err=0
  .have k:((cB A.bls (bl s)).err==0)=true:=by simp[a]
   have g:=bP a;clear a;go_wp2;go_ret2;refine⟨_,kC ?_,?_,(bX.alloc bW _).trans (d.mono (by simp))⟩
   .rw[Bool.eq_iff_iff,decide_eq_true_iff,decide_eq_true_iff,eU];simp[c.out,g.out]
   .rw[eL,if_neg c.out];exact cP i.out (by simp)
  .have k:((cB A.bls (bl s)).err==0)=false:=by simp[a]
   go_wp2;go_ret2;refine⟨_,kC (decide_eq_false (fun h=>h.elim c.out (fun h=>a h.1))).symm,?_,(bX.alloc bW _).trans (d.mono (by simp))⟩;rw[eL,if_neg c.out];exact cP i.out (by simp)
def Rul.ok (r:Rul):Prop:=eH r.src 1 9/\eH r.dst 0 9/\eH r.nxt 0 30/\¬(r.fin=true/\bl r.nxt≠[])
def fD (R:dj):Prop:=
 df (bl R.src)=true/\df (bl R.dst)=true/\1<=R.list.length/\R.list.length<=80/\(∀r∈R.list,r.ok)/\R.list.Nodup
theorem wR (R:dj)(v:Value)(w:World)(h:dY w w.heap.size v R):
  Calls prog 142 #[v] w fun e w'=>e= .returned (.bool (decide (fD R)))/\Below w.heap.size w w':=by
 have hR:=h;obtain⟨la,lc,rfl,aI,aJ,Y,an,hl⟩:=h;have aD:=Y;unfold maxLen at Y;go_enter func142,ntmps142;go_wp2_with (first |(go_at_call 47;refine(fL _ _ (by assumption)).mono ?_;rintro e J ⟨rfl,rfl⟩))
 .have E:(R.list.length:Int)<1\/(80:Int)<R.list.length:=by assumption
  go_ret;exact⟨cj fun l=>by have:=l.2.2.1;have:=l.2.2.2.1;omega,bX.alloc bW _⟩
 .have h1:df (bl R.src)=true:=by assumption
  have A:df (bl R.dst)=true:=by assumption
  have E:(1:Int)<=R.list.length/\(R.list.length:Int)<=80:=by assumption
  obtain⟨b,off,rfl,M,x⟩:=hl.aU (by omega);obtain⟨s,y⟩:∃s:World,s=(w.alloc (.cells #[.string R.src,.string R.dst,.slice (some ⟨b,off,none⟩) R.list.length lc] 91)):=⟨_,rfl⟩;rw[<-y];have ab:Below w.heap.size w s:=by rw[y];exact bX.alloc bW _
  have aa:s.heap.size=w.heap.size+1:=by rw[y];simp
  have V:=fun wr (g:Below w.heap.size w wr) i (z:i<R.list.length)=>
   (And.intro ((g.cell (p:=⟨b,off+i*4,none⟩) M).trans (x i z).1) (And.intro ((g.cell (p:=⟨b,off+i*4+1,none⟩) M).trans (x i z).2.1)
    (And.intro ((g.cell (p:=⟨b,off+i*4+2,none⟩) M).trans (x i z).2.2.1) ((g.cell (p:=⟨b,off+i*4+3,none⟩) M).trans (x i z).2.2.2))))
  have P:=bP V;have N:=bQ h1 A;clear x V h1 A;go_loopw [3] (fun i wr=>∃k:Nat,k<=R.list.length/\i= .int .i64 k/\(∀(a:Nat) r,a<k->R.list[a]?=some r->r.ok)/\(∀(a c:Nat) r,a<c->c<k->R.list[a]?=some r->R.list[c]?≠some r)/\Below s.heap.size s wr) (fun i _=>R.list.length-(intOf i).toNat);case atStart=>exact⟨0,zero_le _,rfl,by simp,by simp,bX⟩
  case round=>
   obtain⟨k,hk,rfl,d,U,g⟩:=hrel;have S:=bP d;have O:=bP U;have I:Below w.heap.size w wr:=ab.trans (g.mono (by omega));have ar:=g.size;have c1:wr.cell? ⟨w.heap.size,2,none⟩=some (.slice (some ⟨b,off,none⟩) R.list.length lc):=(g.cell (p:=⟨w.heap.size,2,none⟩) (by simp[aa])).trans (by rw[y];simp);clear d U;by_cases u:k<R.list.length
   .obtain⟨k0,k1,k2,k3⟩:=P.out wr I k u;have hz:=an _ (getElem_mem u);obtain⟨aM,aN,aO⟩:=hz;have G:=fun(h:¬R.list[k].ok) (l:fD R)=>h (l.2.2.2.2.1 _ (getElem_mem u));have ae:=bP G;clear G;by_cases d:R.list[k].ok
    .have p1:=d.1;have p2:=d.2.1;have p3:=d.2.2.1;have p4:R.list[k].fin=true->R.list[k].nxt.toList.isEmpty=true:=fun h=>(gx _).2 (Classical.not_not.1 fun A=>d.2.2.2 ⟨h,A⟩);have P4:=bP p4;have ai:=bP d;clear p4 d;have ah:(R.list[k].fin=true/\R.list[k].nxt.toList=[])\/R.list[k].fin=false:=by
      cases f:R.list[k].fin with
      |false=>exact .inr rfl
      |true=>exact .inl ⟨rfl,by simpa using P4.out f⟩
     rcases ah with ⟨f,aq⟩ |f;all_goals
      go_wp2_with (first |(go_at_call 197;refine(js _ _ _ _ (by assumption)).mono ?_;rintro e J ⟨rfl,rfl⟩));obtain⟨t,j⟩:∃t:World,t=wr.alloc (.cells #[.string R.list[k].src,.string R.list[k].dst,.string R.list[k].nxt,.bool R.list[k].fin] 88):=⟨_,rfl⟩;have D:=j;simp only[f]at D;rw[<-D];have aj:Below s.heap.size s t:=by rw[j];exact g.alloc ar _
      have aK:t.heap.size=wr.heap.size+1:=by rw[j];simp
      have x0:t.cell? ⟨wr.heap.size,0,none⟩=some (.string R.list[k].src):=by rw[j];simp
      have x1:t.cell? ⟨wr.heap.size,1,none⟩=some (.string R.list[k].dst):=by rw[j];simp
      have x2:t.cell? ⟨wr.heap.size,2,none⟩=some (.string R.list[k].nxt):=by rw[j];simp
      have x3:t.cell? ⟨wr.heap.size,3,none⟩=some (.bool R.list[k].fin):=by rw[j];simp
      have X:=bT x0 x1 x2 x3;clear x0 x1 x2 x3 k0 k1 k2 k3 c1 j D f;obtain⟨F,rfl⟩:∃F:World,F=wr:=⟨_,rfl⟩;go_loopw [5] (fun i wr=>∃m:Nat,m<=k/\i= .int .i64 m/\(∀(a:Nat) r,a<m->R.list[a]?=some r->r≠R.list[k])/\Below t.heap.size t wr) (fun i _=>k-(intOf i).toNat);case atStart=>exact⟨0,zero_le _,rfl,by simp,bX⟩
      case round=>
       obtain⟨m,hm,rfl,Z,q⟩:=hrel;have Q:=bP Z;clear Z;have C:Below s.heap.size s wr:=aj.trans (q.mono (by omega));have ad:Below w.heap.size w wr:=ab.trans (C.mono (by omega));have aL:=q.size;have y0:=(q.cell (p:=⟨F.heap.size,0,none⟩) (by simp;omega)).trans X.out.1;have y1:=(q.cell (p:=⟨F.heap.size,1,none⟩) (by simp;omega)).trans X.out.2.1;have y2:=(q.cell (p:=⟨F.heap.size,2,none⟩) (by simp;omega)).trans X.out.2.2.1;have y3:=(q.cell (p:=⟨F.heap.size,3,none⟩) (by simp;omega)).trans X.out.2.2.2;have c1:wr.cell? ⟨w.heap.size,2,none⟩=some (.slice (some ⟨b,off,none⟩) R.list.length lc):=(C.cell (p:=⟨w.heap.size,2,none⟩) (by simp[aa])).trans (by rw[y];simp);by_cases ao:m<k
       .obtain⟨m0,m1,m2,m3⟩:=P.out wr ad m (by omega);have heq:=wu R.list[m] R.list[k];have aH:=zO;by_cases he:R.list[m]=R.list[k]
        .have hd:decide (R.list[m]=R.list[k])=true:=decide_eq_true he;have He:=bP he;clear he;go_wp2_with fail;go_quiet (fail);go_wp2;go_ret;refine⟨cj fun l=>?_,Go.below_drewN ad _⟩;exact pairwise_iff_getElem.1 l.2.2.2.2.2 m k (by omega) u ao He.out
        .have hd:decide (R.list[m]=R.list[k])=false:=decide_eq_false he;have He:=bP he;clear he;go_wp2_with fail;go_quiet (fail);go_wp2;refine⟨⟨m+1,by omega,by go_num,fun a r B n=>?_,Go.below_drewN q _⟩,by simp[intOf];omega⟩;rcases Nat.lt_succ_iff_lt_or_eq.1 B with B |rfl
         .exact Q.out a r B n
         .rw[getElem?_eq_getElem (by omega)]at n;obtain rfl:=Option.some.inj n;exact He.out
       .obtain rfl:m=k:=by omega
        go_wp2;refine⟨⟨m+1,by omega,by go_num,fun a r B n=>?_,fun a c r T x n H=>?_,C⟩,by simp[intOf];omega⟩
        .rcases Nat.lt_succ_iff_lt_or_eq.1 B with B |rfl
         .exact S.out a r B n
         .rw[getElem?_eq_getElem u]at n;obtain rfl:=Option.some.inj n;exact ai.out
        .rcases Nat.lt_succ_iff_lt_or_eq.1 x with x |rfl
         .exact O.out a c r T x n H
         .rw[getElem?_eq_getElem u]at H;obtain rfl:=Option.some.inj H;exact Q.out a _ T n rfl
    .have L:=bP (ae.out d);have o:Below w.heap.size w (wr.alloc (.cells #[.string R.list[k].src,.string R.list[k].dst,.string R.list[k].nxt,.bool R.list[k].fin] 88)):=I.alloc (by omega) _;have ag:=bP d;clear d;by_cases p1:eH R.list[k].src 1 9
     .by_cases p2:eH R.list[k].dst 0 9
      .by_cases p3:eH R.list[k].nxt 0 30
       .have hx:R.list[k].fin=true/\R.list[k].nxt.toList.isEmpty=false:=by
         refine Classical.byContradiction fun h=>ag.out ⟨p1,p2,p3,fun A=>h ⟨A.1,ic A.2⟩⟩
        obtain⟨f,aq⟩:=hx;simp only[f]at o;go_wp2_with (first |(go_at_call 197;refine(js _ _ _ _ (by assumption)).mono ?_;rintro e J ⟨rfl,rfl⟩));go_ret;exact⟨cj L.out,o⟩
       .go_wp2_with (first |(go_at_call 197;refine(js _ _ _ _ (by assumption)).mono ?_;rintro e J ⟨rfl,rfl⟩));go_ret;exact⟨cj L.out,o⟩
      .go_wp2_with (first |(go_at_call 197;refine(js _ _ _ _ (by assumption)).mono ?_;rintro e J ⟨rfl,rfl⟩));go_ret;exact⟨cj L.out,o⟩
     .go_wp2_with (first |(go_at_call 197;refine(js _ _ _ _ (by assumption)).mono ?_;rintro e J ⟨rfl,rfl⟩));go_ret;exact⟨cj L.out,o⟩
   .go_wp2;go_ret;refine⟨dP ⟨N.out.1,N.out.2,by omega,by omega,fun r n=>?_,?_⟩,I⟩
    .obtain⟨i,z,rfl⟩:=getElem_of_mem n;exact S.out i _ (by omega) (getElem?_eq_getElem z)
    .refine pairwise_iff_getElem.2 fun i j' z al ak e=>?_;exact O.out i j' _ ak (by omega) (getElem?_eq_getElem z) (by rw[getElem?_eq_getElem al,e])
 .have E:(R.list.length:Int)<1:=by assumption
  go_ret;exact⟨cj fun l=>by have:=l.2.2.1;omega,bX.alloc bW _⟩
 .have E:¬df (bl R.dst)=true:=by assumption
  go_ret;exact⟨cj fun l=>E l.2.1,bX.alloc bW _⟩
 .have E:¬df (bl R.src)=true:=by assumption
  go_ret;exact⟨cj fun l=>E l.1,bX.alloc bW _⟩
def Rul.aJ (A B:cr)(r:Rul):Prop:=eU A.bls (bl r.src) 3/\eU B.bls (bl r.dst) 3/\eU A.bls (bl r.nxt) 10
def dr (R:dj)(A B:cr):Prop:=
 fD R/\cG A/\cG B/\R.src=A.name/\R.dst=B.name/\∀r∈R.list,r.aJ A B
theorem nT {a b:ByteArray}:(!a.toList==b.toList)=true↔a≠b:=by
 rw[ByteArray.toList_eq,ByteArray.toList_eq,Bool.not_eq_true',beq_eq_false_iff_ne];exact⟨fun h e=>h (by rw[e]),fun h e=>h (cY e)⟩
theorem qT (R:dj)(A B:cr)(v va vb:Value)(w:World)(h:dY w w.heap.size v R)(ha:cH w w.heap.size va A)(hb:cH w w.heap.size vb B):
  Calls prog 83 #[v,va,vb] w fun e w'=>e= .returned (.bool (decide (dr R A B)))/\Below w.heap.size w w':=by
 have hR:=h;have hA:=ha;have hB:=hb;obtain⟨la,lc,rfl,bT,bU,aQ,bh,hl⟩:=h;obtain⟨fa,fc,ga,gc,rfl,hn,bL,bV,bN,bJ,bK⟩:=ha;obtain⟨an,ao,ar,au,rfl,bR,bM,ay,bG,bC,bD⟩:=hb;have bF:=aQ;unfold maxLen at aQ;go_enter func83,ntmps83;go_wp2_with fail;generalize D:(((w.alloc _).alloc _).alloc _)=I;have c:Below w.heap.size w I:=by rw[<-D];exact((bX.alloc bW _).alloc (by simp) _).alloc (by simp;omega) _
 have bY:I.heap.size=w.heap.size+3:=by rw[<-D];simp
 have aO:Box I w.heap.size [Value.string R.src,.string R.dst,.slice la R.list.length lc]:=by
  rw[<-D];exact((Box.new _ _ _).alloc (by simp) _).alloc (by simp;omega) _
 have aM:Box I (w.heap.size+1) [Value.string A.name,.slice fa A.letters.length fc,.slice ga A.small.length gc]:=by
  rw[<-D];have:=(Box.new (w.alloc (.cells #[Value.string R.src,.string R.dst,.slice la R.list.length lc] 91)) [Value.string A.name,.slice fa A.letters.length fc,.slice ga A.small.length gc] 83);simp at this;exact this.alloc (by simp) _
 have aN:Box I (w.heap.size+2) [Value.string B.name,.slice an B.letters.length ao,.slice ar B.small.length au]:=by
  rw[<-D];have:=(Box.new ((w.alloc (.cells #[Value.string R.src,.string R.dst,.slice la R.list.length lc] 91)).alloc (.cells #[Value.string A.name,.slice fa A.letters.length fc,.slice ga A.small.length gc] 83)) [Value.string B.name,.slice an B.letters.length ao,.slice ar B.small.length au] 83);simpa using this
 clear D;have Y:=fun wr (d:Below I.heap.size I wr)=>And.intro (aO.below d (by omega)).c3 (And.intro (aM.below d (by omega)).c3 (aN.below d (by omega)).c3);have s:=bP Y;clear Y aO aM aN;refine(wR R _ _ ((hR.below c bW).more c.size)).mono ?_;rintro e w1 ⟨rfl,M⟩;have S:=c.trans (M.mono c.size);by_cases hf:fD R
 .rw[decide_eq_true hf];obtain⟨⟨z,C,q⟩,⟨a0,n,a2⟩,t,x,y⟩:=s.out w1 M;go_wp2_with fail;refine(jm A _ _ ((hA.below S bW).more S.size)).mono ?_;rintro e w2 ⟨rfl,bf⟩;have o:=M.trans (bf.mono M.size);have T:=c.trans (o.mono c.size);clear z C q a0 n a2 t x y;by_cases F:cG A
  .rw[decide_eq_true F];obtain⟨⟨z,C,q⟩,⟨a0,n,a2⟩,t,x,y⟩:=s.out w2 o;go_wp2_with fail;refine(jm B _ _ ((hB.below T bW).more T.size)).mono ?_;rintro e w3 ⟨rfl,bg⟩;have J:=o.trans (bg.mono o.size);have U:=c.trans (J.mono c.size);clear z C q a0 n a2 t x y;by_cases G:cG B
   .rw[decide_eq_true G];obtain⟨⟨z,C,q⟩,⟨a0,n,a2⟩,t,x,y⟩:=s.out w3 J;by_cases m:R.src=A.name
    .by_cases E:R.dst=B.name
     .have d1:(R.src.toList==A.name.toList)=true:=by rw[m];simp
      have d2:(R.dst.toList==B.name.toList)=true:=by rw[E];simp
      have He:=bQ m E;have aS:=F.ok;have bj:=G.ok;have HV:=bS hf F G;have bO:=hf.2.2.1;obtain⟨b,off,rfl,hb,hc⟩:=hl.aU (by omega);have aP:=fun wr (d:Below w.heap.size w wr) i (hi:i<R.list.length)=>
       (And.intro ((d.cell (p:=⟨b,off+i*4,none⟩) hb).trans (hc i hi).1) (And.intro ((d.cell (p:=⟨b,off+i*4+1,none⟩) hb).trans (hc i hi).2.1)
        ((d.cell (p:=⟨b,off+i*4+2,none⟩) hb).trans (hc i hi).2.2.1)))
      have X:=bP aP;clear m E hf F G hc aP;go_wp2_with fail;clear z C q a0 n a2 t x y d1 d2;go_loopw [7] (fun i wr=>∃k:Nat,k<=R.list.length/\i= .int .i64 k/\(∀(a:Nat) r,a<k->R.list[a]?=some r->r.aJ A B)/\Below I.heap.size I wr) (fun i _=>R.list.length-(intOf i).toNat);case atStart=>exact⟨0,zero_le _,rfl,by simp,J⟩
      case round=>
       obtain⟨k,hk,rfl,aR,d⟩:=hrel;have aH:=bP aR;clear aR;have Z:=c.trans (d.mono c.size);have bc:=Z.size;obtain⟨⟨z,C,q⟩,⟨a0,n,a2⟩,t,x,y⟩:=s.out wr d;by_cases g:k<R.list.length
       .obtain⟨q1,q2,q3⟩:=bh _ (getElem_mem g);obtain⟨k0,k1,k2⟩:=X.out wr Z k g;go_wp2_with fail;go_region_held3 (fun w'=>w'.cell? ⟨w.heap.size+1,0,none⟩=some (.string A.name)/\w'.cell? ⟨w.heap.size+1,1,none⟩=some (.slice fa A.letters.length fc)/\w'.cell? ⟨w.heap.size+1,2,none⟩=some (.slice ga A.small.length gc)/\w'.cell? ⟨w.heap.size,2,none⟩=some (.slice (some ⟨b,off,none⟩) R.list.length lc)/\w'.cell? ⟨b,off+k*4,none⟩=some (.string R.list[k].src))
         (first |exact⟨a0,n,a2,q,k0⟩ |exact⟨N,O,Q,H,ae⟩ |go_keep)
         (first |(go_at_call 143;refine(lz A aS _ 3 q1 _ _ ((hA.below Z.drew bW).more bc)).mono ?_;rintro e w4 ⟨u,rfl,hu,aI⟩;have j:=d.drew.trans (aI.mono d.size);obtain⟨⟨aD,aE,H⟩,⟨N,O,Q⟩,aa,ab,ad⟩:=s.out w4 j;obtain⟨ae,af,ag⟩:=X.out w4 (c.trans (j.mono c.size)) k g))
        have az:=c.trans (j.mono c.size);have ay:=az.size;clear z C q a0 n a2 t x y k0 k1 k2 aI aD aE;go_wp2_with fail;go_region_held3 (fun w'=>w'.cell? ⟨w.heap.size+2,0,none⟩=some (.string B.name)/\w'.cell? ⟨w.heap.size+2,1,none⟩=some (.slice an B.letters.length ao)/\w'.cell? ⟨w.heap.size+2,2,none⟩=some (.slice ar B.small.length au)/\w'.cell? ⟨w.heap.size,2,none⟩=some (.slice (some ⟨b,off,none⟩) R.list.length lc)/\w'.cell? ⟨b,off+k*4+1,none⟩=some (.string R.list[k].dst))
         (first |exact⟨aa,ab,ad,H,af⟩ |exact⟨aY,aZ,a6,aF,a7⟩ |go_keep)
         (first |(go_at_call 143;refine(lz B bj _ 3 q2 _ _ ((hB.below az.drew bW).more ay)).mono ?_;rintro e w5 ⟨u2,rfl,bZ,aK⟩;have l:=j.drew.trans (aK.mono j.size);obtain⟨⟨bm,bp,aF⟩,⟨aV,aW,aX⟩,aY,aZ,a6⟩:=s.out w5 l;obtain⟨bk,a7,a8⟩:=X.out w5 (c.trans (l.mono c.size)) k g))
        have aA:=c.trans (l.mono c.size);have aT:=aA.size;clear H N O Q aa ab ad ae af ag aK bm bp j az ay;go_wp2_with fail;go_region_held3 (fun w'=>w'.cell? ⟨w.heap.size+1,0,none⟩=some (.string A.name)/\w'.cell? ⟨w.heap.size+1,1,none⟩=some (.slice fa A.letters.length fc)/\w'.cell? ⟨w.heap.size+1,2,none⟩=some (.slice ga A.small.length gc)/\w'.cell? ⟨w.heap.size,2,none⟩=some (.slice (some ⟨b,off,none⟩) R.list.length lc)/\w'.cell? ⟨b,off+k*4+2,none⟩=some (.string R.list[k].nxt))
         (first |exact⟨aV,aW,aX,aF,a8⟩ |exact⟨N,O,Q,H,ag⟩ |go_keep)
         (first |(go_at_call 143;refine(lz A aS _ 10 q3 _ _ ((hA.below aA.drew bW).more aT)).mono ?_;rintro e w6 ⟨u3,rfl,b3,aL⟩;have L:=l.drew.trans (aL.mono l.size);obtain⟨⟨aD,aE,H⟩,⟨N,O,Q⟩,aa,ab,ad⟩:=s.out w6 L;obtain⟨ae,af,ag⟩:=X.out w6 (c.trans (L.mono c.size)) k g))
        have aB:=c.trans (L.mono c.size);clear aD aE H N O Q aa ab ad ae af ag aL aF aV aW aX aY aZ a6 bk a7 a8 l aA aT;by_cases V:eU A.bls (bl R.list[k].src) 3
        .by_cases p2:eU B.bls (bl R.list[k].dst) 3
         .by_cases p3:eU A.bls (bl R.list[k].nxt) 10
          .have P:=bS V p2 p3;rw[decide_eq_true V,decide_eq_true p2,decide_eq_true p3];clear V p2 p3;go_wp2;refine⟨⟨k+1,by omega,by go_num,fun a r ha hr=>?_,L⟩,by simp[intOf];omega⟩;rcases Nat.lt_succ_iff_lt_or_eq.1 ha with ha |rfl
           .exact aH.out a r ha hr
           .rw[getElem?_eq_getElem g]at hr;obtain rfl:=Option.some.inj hr;exact P.out
          .rw[decide_eq_true V,decide_eq_true p2,decide_eq_false p3];go_wp2;go_ret;exact⟨cj fun f=>p3 (f.2.2.2.2.2 _ (getElem_mem g)).2.2,aB⟩
         .rw[decide_eq_true V,decide_eq_false p2];go_wp2;go_ret;exact⟨cj fun f=>p2 (f.2.2.2.2.2 _ (getElem_mem g)).2.1,aB⟩
        .rw[decide_eq_false V];go_wp2;go_ret;exact⟨cj fun f=>V (f.2.2.2.2.2 _ (getElem_mem g)).1,aB⟩
       .go_wp2;go_ret;refine⟨dP ⟨HV.out.1,HV.out.2.1,HV.out.2.2,He.out.1,He.out.2,fun r hr=>?_⟩,Z⟩;obtain⟨i,hi,rfl⟩:=getElem_of_mem hr;exact aH.out i _ (by omega) (getElem?_eq_getElem hi)
     .have d1:(R.src.toList==A.name.toList)=true:=by rw[m];simp
      have d2:(R.dst.toList==B.name.toList)=false:=by rw[<-Bool.not_eq_true'];exact nT.2 E
      have He:=bP E;clear m E;go_wp2;go_ret;exact⟨cj fun f=>He.out f.2.2.2.2.1,U⟩
    .have d1:(R.src.toList==A.name.toList)=false:=by rw[<-Bool.not_eq_true'];exact nT.2 m
     have He:=bP m;clear m;go_wp2;go_ret;exact⟨cj fun f=>He.out f.2.2.2.1,U⟩
   .rw[decide_eq_false G];obtain⟨⟨z,C,q⟩,⟨a0,n,a2⟩,t,x,y⟩:=s.out w3 J;go_wp2;go_ret;exact⟨cj fun f=>G f.2.2.1,U⟩
  .rw[decide_eq_false F];obtain⟨⟨z,C,q⟩,⟨a0,n,a2⟩,t,x,y⟩:=s.out w2 o;go_wp2;go_ret;exact⟨cj fun f=>F f.2.1,T⟩
 .rw[decide_eq_false hf];obtain⟨⟨z,C,q⟩,⟨a0,n,a2⟩,t,x,y⟩:=s.out w1 M;go_wp2;go_ret;exact⟨cj fun f=>hf f.1,S⟩
end
end Go.Proofs.YtmhdgddjeadjjaaGreatDoor
