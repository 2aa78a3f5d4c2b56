/- SD -/
import Derived.Test.YtmhdgddjeadjjaaGreatDoorP23
import Derived.Test.YtmhdgddjeadjjaaGreatDoorP28
import Derived.Test.YtmhdgddjeadjjaaGreatDoorP32
namespace Go.Proofs.YtmhdgddjeadjjaaGreatDoor
open _root_.List Go.Lib _root_.Nat Go.World _root_.Int Go.Proofs.Tryz
section
open Go.RowKit Go.Shelf Classical
theorem my {M:cu}{x:ByteArray}{w w':World}{err:Int}(a:et M (bl x) [] err)(b:Below w.heap.size w w'):nQ M x w (.returned (.tuple #[.slice none 0 0,.int .i64 err])) w':=
 ⟨_,[],err,rfl,⟨none,0,rfl,fun h=>by simp[strs]at h⟩,b,a⟩
set_option maxRecDepth 100000
set_option maxHeartbeats 4000000
theorem Ca (M:cu)(v:Value)(x:ByteArray)(hx:x.size<=1000000)(w:World)(h:dx w w.heap.size v M):
  Calls prog 64 #[v,.string x] w (nQ M x w):=by
 have bC:=h;obtain⟨fa,fc,aa,ac,rfl,cX,cW,cm,ha⟩:=h;obtain⟨ja,bU,bV,b0,b1⟩:=info_parts uf;have HM:=bP (fun(wr:World) (c:Below w.heap.size w wr)=>(show dx wr w.heap.size (.agg #[.int .i64 M.ag,.int .i64 M.start,.slice fa M.final.length fc,.slice aa M.arcs.length ac]) M from bC.below c bW));obtain⟨Y,ab⟩:∃b:Array Value,b= #[.int .i64 M.ag,.int .i64 M.start,.slice fa M.final.length fc,.slice aa M.arcs.length ac]:=⟨_,rfl⟩;have L:=bP (fun(wr:World) (hk:Blk wr w.heap.size Y 98)=>(show wr.cell? ⟨w.heap.size,0,none⟩=some (.int .i64 M.ag)/\wr.cell? ⟨w.heap.size,1,none⟩=some (.int .i64 M.start)/\wr.cell? ⟨w.heap.size,2,none⟩=some (.slice fa M.final.length fc)/\wr.cell? ⟨w.heap.size,3,none⟩=some (.slice aa M.arcs.length ac)from
  ⟨by rw[hk.cell 0,ab];rfl,by rw[hk.cell 1,ab];rfl,by rw[hk.cell 2,ab];rfl,by rw[hk.cell 3,ab];rfl⟩))
 obtain⟨W0,aJ⟩:∃W0:World,W0=w.alloc (.cells #[.int .i64 M.ag,.int .i64 M.start,.slice fa M.final.length fc,.slice aa M.arcs.length ac] 98):=⟨_,rfl⟩;have J:=bP (show Below w.heap.size w W0/\Blk W0 w.heap.size Y 98 from⟨by rw[aJ];exact bX.alloc bW _,by rw[aJ,ab];exact Blk.new _ _ _⟩);have HV:=bP (xT M _ W0 ((HM.out W0 J.out.1).more J.out.1.size));have HA:=bP (fun(wr:World) (aN:Below w.heap.size w wr) (k:Nat) (hk:k<M.arcs.length)=>by
  obtain⟨b,off,e,c,hc⟩:=ha.arcs (by omega);exact(⟨b,off,e,(aN.cell (p:=⟨b,off+k*4,none⟩) c).trans (hc k hk).1,(aN.cell (p:=⟨b,off+k*4+1,none⟩) c).trans (hc k hk).2.1,(aN.cell (p:=⟨b,off+k*4+2,none⟩) c).trans (hc k hk).2.2.1,(aN.cell (p:=⟨b,off+k*4+3,none⟩) c).trans (hc k hk).2.2.2⟩:
   ∃b off,aa=some ⟨b,off,none⟩/\wr.cell? ⟨b,off+k*4,none⟩=some (.int .i64 M.arcs[k].frm)/\wr.cell? ⟨b,off+k*4+1,none⟩=some (.int .i64 M.arcs[k].inp)/\wr.cell? ⟨b,off+k*4+2,none⟩=some (.int .i64 M.arcs[k].out)/\wr.cell? ⟨b,off+k*4+3,none⟩=some (.int .i64 M.arcs[k].to)))
 obtain⟨m0,m1,m2,m3⟩:=L.out W0 J.out.2;clear ha cm bC ab;go_enter func64,ntmps64;go_upto_region 1 with (fail);rw[<-aJ];clear aJ;by_cases hv:cN M;case neg=>
  rw[decide_eq_false hv]at HV;have R:=bP (show et M (bl x) [] 1 from .inl ⟨fun h=>hv h.1,rfl,rfl⟩);clear hv;go_wp2_with fail;refine HV.out.mono ?_;rintro e w1 ⟨rfl,c⟩;have Hb:=bP (J.out.1.trans (c.mono J.out.1.size));clear c;go_wp2_with fail;go_ret2;exact my R.out Hb.out
 rw[decide_eq_true hv]at HV;by_cases h4:x.size<=400;case neg=>
  have R:=bP (show et M (bl x) [] 1 from .inl ⟨fun h=>h4 (by rw[<-b9];exact h.2),rfl,rfl⟩);clear hv;go_wp2_with fail;refine HV.out.mono ?_;rintro e w1 ⟨rfl,c⟩;have Hb:=bP (J.out.1.trans (c.mono J.out.1.size));clear c;go_wp2_with fail;go_ret2;exact my R.out Hb.out
 have X:=bP hv;have cI:=hv.an;clear hv;go_wp2_with fail;refine HV.out.mono ?_;rintro e w1 ⟨rfl,c⟩;have H1:=bQ (J.out.1.trans (c.mono J.out.1.size)) (J.out.2.below c J.out.2.lt);have HS:=bP (yx M _ X.out w1 ((HM.out w1 H1.out.1).more H1.out.1.size));clear m0 m1 m2 m3 c;obtain⟨m0,m1,m2,m3⟩:=L.out w1 H1.out.2;by_cases hC:eJ M;case pos=>
  rw[decide_eq_true hC]at HS;have R:=bP (show et M (bl x) [] 12 from .inr ⟨⟨X.out,by rw[b9];exact h4⟩,.inl ⟨hC,rfl,rfl⟩⟩);clear hC;go_wp2_with fail;refine HS.out.mono ?_;rintro e w2 ⟨rfl,c⟩;have Hb:=bP (H1.out.1.trans (c.mono H1.out.1.size));clear c;go_wp2_with fail;go_ret2;exact my R.out Hb.out
 rw[decide_eq_false hC]at HS;have HC:=bP hC;clear hC;go_wp2_with fail;refine HS.out.mono ?_;rintro e w2 ⟨rfl,c⟩;have H2:=bQ (H1.out.1.trans (c.mono H1.out.1.size)) (H1.out.2.below c H1.out.2.lt);clear m0 m1 m2 m3 c;obtain⟨m0,m1,m2,m3⟩:=L.out w2 H2.out.2;obtain⟨wa,aQ⟩:∃wa:World,wa=w2.alloc (.cells #[.int .i64 M.start,.string ⟨#[]⟩] 169):=⟨_,rfl⟩;have aM:Below w2.heap.size w2 wa:=by rw[aQ];exact bX.alloc bW _
 have N:=bP (qN M _ X.out 0 w2.heap.size _ [⟨M.start,⟨#[]⟩⟩] (yB X.out) (by omega) wa aM.size ((HM.out wa (H2.out.1.trans (aM.mono H2.out.1.size))).more H2.out.1.size) (by rw[aQ];exact xr w2 _ _ _));go_wp2_with fail;rw[<-aQ];have bB:=bP aM;clear aQ aM;refine N.out.mono ?_;rintro e Z ⟨v3,l,rfl,E,u,t⟩;have I:=bB.out.trans t;have H3:=bQ (show eW w w.heap.size w.heap.size Y v3 l Z from⟨bW,H2.out.1.trans (I.mono H2.out.1.size),cP u H2.out.1.size,H2.out.2.below I H2.out.2.lt⟩) (show lq M (bl x) 0 l from E.first);obtain⟨au,aw,rfl, -, -⟩:=b8.ah u;clear m0 m1 m2 m3 E u t I N bB;go_wp2_with fail;go_loopw [6,7,8] (fun lv ok i wr=>∃(n:Nat) (ks:List Plc) (va:Option Addr) (vc:Nat),n<=x.size/\i= .int .i64 n/\lv= .slice va ks.length vc/\ok= .bool (decide (ks.length<=2000))/\lq M (bl x) n ks/\(∀j,j<n->gq (Reach M ((bl x).take j)))/\eW w w.heap.size w.heap.size Y (.slice va ks.length vc) ks wr) (fun _ _ i _=>x.size-(intOf i).toNat);case atStart=>exact⟨0,l,au,aw,zero_le _,rfl,rfl,rfl,H3.out.2,fun j h=>by omega,H3.out.1⟩
 case round=>
  clear H3;obtain⟨n,ks,va,vc,hn,rfl,rfl,rfl,aA,ba,f⟩:=hrel;have T:=bS aA ba f;have cM:=aA.len;clear aA ba f;by_cases h2:ks.length<=2000;case neg=>
   have R:=bP (show et M (bl x) [] 2 from sT X.out h4 HC.out hn (T.out.1.many (by omega)));have bA:=bP T.out.2.2.below;rw[decide_eq_false h2];clear h2;by_cases bH:n<x.size
   .go_wp2_with fail;go_ret2;exact my R.out bA.out
   .go_wp2_with fail;go_ret2;exact my R.out bA.out
  rw[decide_eq_true h2];by_cases bH:n<x.size;case neg=>
   obtain rfl:n=x.size:=by omega
   go_wp2_with fail;go_loopw [14,15] (fun ov i wr=>∃(k:Nat) (out:List ByteArray) (oa:Option Addr) (oc:Nat),k<=ks.length/\i= .int .i64 k/\ov= .slice oa out.length oc/\lp M ks k out/\wr.ownsRow w.heap.size 9 1 (.slice oa out.length oc) out.length (strs out)/\eW w w.heap.size w.heap.size Y (.slice va ks.length vc) ks wr) (fun _ i _=>ks.length-(intOf i).toNat);case atStart=>exact⟨0,[],none,0,zero_le _,rfl,rfl,lp.start,ownsRow_nil _ _ _ _,T.out.2.2⟩
   case round=>
    obtain⟨k,out,oa,oc,hk,rfl,rfl,D,be,f⟩:=hrel;have B:=bS D be f;have cY:=D.2.2;clear D be f;by_cases aO:k<ks.length;case neg=>
     obtain rfl:k=ks.length:=by omega
     have R:=bP (B.out.1.done X.out h4 HC.out T.out.2.1 T.out.1 h2 bW);have HR:=bP (show nQ M x w (.returned (.tuple #[.slice oa out.length oc,.int .i64 0])) wr from by
      obtain⟨a9,c9,e9,_,cr⟩:=b8.ah B.out.2.1;cases e9
      exact⟨_,out,0,rfl,⟨_,_,rfl,cr⟩,B.out.2.2.below,R.out⟩)
     go_wp2_with fail;go_ret2;exact HR.out
    obtain⟨p,hp⟩:∃p,ks[k]?=some p:=⟨_,getElem?_eq_getElem aO⟩;have Hp:=bP hp;obtain⟨g,o,c',e9,hg,y0,y1⟩:=B.out.2.2.get hp;cases e9
    obtain⟨m0,m1,m2,m3⟩:=L.out wr B.out.2.2.box;have s:=bP (fun(w':World) (c:Below wr.heap.size wr w')=>(show(w'.cell? ⟨w.heap.size,0,none⟩=some (.int .i64 M.ag)/\w'.cell? ⟨w.heap.size,1,none⟩=some (.int .i64 M.start)/\w'.cell? ⟨w.heap.size,2,none⟩=some (.slice fa M.final.length fc)/\w'.cell? ⟨w.heap.size,3,none⟩=some (.slice aa M.arcs.length ac))/\w'.cell? ⟨g,o+k*2,none⟩=some (.int .i64 p.st)/\w'.cell? ⟨g,o+k*2+1,none⟩=some (.string p.tx)from
     ⟨L.out w' (B.out.2.2.box.below c B.out.2.2.box.lt),(c.cell (p:=⟨g,_,none⟩) hg).trans y0,(c.cell (p:=⟨g,_,none⟩) hg).trans y1⟩))
    have HF:=bP (fun(w':World) (c:Below wr.heap.size wr w')=>uU M _ p.st w' ((HM.out w' (B.out.2.2.below.trans (c.mono B.out.2.2.below.size))).more (Nat.le_trans B.out.2.2.below.size c.size)));clear hp y0 y1 m0 m1 m2 m3;go_upto_region 27 with (fail);go_cut [130] (fun v wx=>v= .bool (decide (p.st∈M.final))/\Below wr.heap.size wr wx);case first=>
     refine wp_region_held_drew (S:=fun w'=>Below wr.heap.size wr w') (by kernel_rfl) (Go.below_drewN (Below.refl _ wr) 1) (fun aI=>?_);refine tk [0,1,2,3,4,5] ?_;repeat ((refine tkt (v:=?_) ?_ ?_;rotate_left;·intro w' C;obtain⟨⟨s0,s1,s2,s3⟩,s4,s5⟩:=s.out w' C;go_simp<;>with_reducible rfl);try simp only[pS])
     refine tkn ?_;refine rd1 6 (fun K hK=>?_);go_simp;go_at_call 112;refine(HF.out _ (Go.below_drewN (Below.refl _ wr) 1)).mono ?_;rintro e w5 ⟨rfl,a8⟩;have al:Below wr.heap.size wr w5:=(Go.below_drewN (Below.refl _ wr) 1).trans a8;refine hK.out _ _ al (fun _=>?_);clear hK K;try simp only[pS]
     refine wpAnyH_done (by kernel_rfl) ?_ _;go_wp2_with fail;go_meet;exact⟨rfl,al⟩
    case rest=>
     obtain⟨rfl,Q⟩:=hcut;have aT:=bP (B.out.2.2.up Q);have bw:=bP (cJ B.out.2.1 Q);obtain⟨-,y0,y1⟩:=s.out wc Q;clear Q s HF;by_cases G:p.st∈M.final;case neg=>
      rw[decide_eq_false G];have m:=bP (B.out.1.aE Hp.out G);clear G;go_wp2_with fail;exact⟨⟨k+1,out,oa,oc,by omega,by go_num,rfl,m.out,bw.out,aT.out⟩,by simp[intOf];omega⟩
     rw[decide_eq_true G];have Hf:=bP G;have aW:=bP (Au w.heap.size _ out p.tx wc (by omega) aT.out.below.size B.out.1.1 bw.out);clear G;go_wp2_with fail;refine aW.out.mono ?_;rintro e w9 ⟨v9,b6,rfl,bD,bd,Q⟩;have m:=bS (B.out.1.hit Hp.out Hf.out bD) bd (aT.out.up Q);obtain⟨a9,c9,rfl, -, -⟩:=b8.ah bd;clear bD bd Q aW y0 y1;go_wp2_with fail;exact⟨⟨k+1,b6,a9,c9,by omega,by go_num,rfl,m.out.1,m.out.2.1,m.out.2.2⟩,by simp[intOf];omega⟩
  obtain⟨H,rfl⟩:∃H:World,H=wr:=⟨_,rfl⟩;have bE:(bl x)[n]?=some x[n]:=dU x n bH;have cx:=x[n].toNat_lt;have cZ:IntKind.i64.wrap (x[n].toNat:Int)=(x[n].toNat:Int):=IntWalk.i64_in _ (by omega);have HX:=bP bE;have A:=bP T.out.2.2;clear bE;go_wp2_with fail;go_loopw [9,10] (fun nv i wr=>∃(k:Nat) (y:List Plc) (na:Option Addr) (nc:Nat),k<=ks.length/\i= .int .i64 k/\nv= .slice na y.length nc/\oV M (x[n].toNat:Int) ((n+1)*2001) ks k y/\eW H w.heap.size H.heap.size Y (.slice na y.length nc) y wr) (fun _ i _=>ks.length-(intOf i).toNat);case atStart=>exact⟨0,[],none,0,zero_le _,rfl,rfl,oV.none,⟨bW,bX,ownsRow_nil _ _ _ _,A.out.box⟩⟩
  case round=>
   obtain⟨k,y,na,nc,hk,rfl,rfl,az,f⟩:=hrel;have cq:=az.start.len;have V:=bQ az f;clear az f;by_cases bb:k<ks.length/\y.length<=2000;case neg=>
    obtain⟨m0,m1,m2,m3⟩:=L.out wr V.out.2.box;have HW:=bP (A.out.below.trans (V.out.2.below.mono A.out.below.size));have N:=bP (qN M _ X.out ((n+1)*2001) H.heap.size _ y V.out.1.start (by omega) wr V.out.2.below.size ((HM.out wr HW.out).more A.out.below.size) V.out.2.own);have HK:=bP (show ks.length<=k\/2000<y.length by omega);have af:=bP (fun(v3:Value) (l:List Plc) (Z:World) (E:lR M ((n+1)*2001) y l) (u:Z.ownsRow H.heap.size 169 2 v3 l.length (l.map Plc.cells).flatten) (t:Below H.heap.size wr Z)=>by
     have I:=V.out.2.below.trans t;exact(And.intro (T.out.1.next h2 HX.out V.out.1 HK.out E) (And.intro (fun j hj=>by
      rcases Nat.lt_succ_iff_lt_or_eq.1 hj with q |rfl
      .exact T.out.2.1 j q
      .exact T.out.1.few h2) (show eW w w.heap.size w.heap.size Y v3 l Z from⟨bW,A.out.below.trans (I.mono A.out.below.size),cP u A.out.below.size,A.out.box.below I A.out.box.lt⟩)):
      lq M (bl x) (n+1) l/\(∀j,j<n+1->gq (Reach M ((bl x).take j)))/\eW w w.heap.size w.heap.size Y v3 l Z))
    clear cq;by_cases aO:k<ks.length
    .have cK:2000<y.length:=by omega
     have ck:decide ((y.length:Int)<=2000)=false:=bY;clear bb;go_wp2_with fail;refine N.out.mono ?_;rintro e Z ⟨v3,l,rfl,E,u,t⟩;obtain⟨au,aw,rfl, -, -⟩:=b8.ah u;have m:=bP (af.out _ l Z E u t);clear E u t af N m0 m1 m2 m3;go_wp2_with fail;exact⟨⟨n+1,l,au,aw,by omega,by go_num,rfl,rfl,m.out.1,m.out.2.1,m.out.2.2⟩,by simp[intOf];omega⟩
    .clear bb;go_wp2_with fail;refine N.out.mono ?_;rintro e Z ⟨v3,l,rfl,E,u,t⟩;obtain⟨au,aw,rfl, -, -⟩:=b8.ah u;have m:=bP (af.out _ l Z E u t);clear E u t af N m0 m1 m2 m3;go_wp2_with fail;exact⟨⟨n+1,l,au,aw,by omega,by go_num,rfl,rfl,m.out.1,m.out.2.1,m.out.2.2⟩,by simp[intOf];omega⟩
   obtain⟨aO,b2⟩:=bb;have ck:decide ((y.length:Int)<=2000)=true:=bZ;obtain⟨p,hp⟩:∃p,ks[k]?=some p:=⟨_,getElem?_eq_getElem aO⟩;have b3:p.tx.size<=(n+1)*2001:=T.out.1.size p (mem_of_getElem? hp);obtain⟨g,o,c',e9,hg,bN,bO⟩:=A.out.get hp;cases e9
   have Hp:=bP hp;have bT:=bP (fun(w':World) (c:Below H.heap.size H w')=>(show w'.cell? ⟨g,o+k*2,none⟩=some (.int .i64 p.st)/\w'.cell? ⟨g,o+k*2+1,none⟩=some (.string p.tx)from
    ⟨(c.cell (p:=⟨g,_,none⟩) hg).trans bN,(c.cell (p:=⟨g,_,none⟩) hg).trans bO⟩))
   clear hp bN bO;have B:=bP (show jN M (x[n].toNat:Int) ((n+1)*2001) ks k p 0 y from V.out.1.open b2);have bz:=bP V.out.2;clear V;go_wp2_with fail;go_loopw [9,11] (fun nv i wr=>∃(j:Nat) (y:List Plc) (na:Option Addr) (nc:Nat),j<=M.arcs.length/\i= .int .i64 j/\nv= .slice na y.length nc/\jN M (x[n].toNat:Int) ((n+1)*2001) ks k p j y/\eW H w.heap.size H.heap.size Y (.slice na y.length nc) y wr) (fun _ i _=>M.arcs.length-(intOf i).toNat);case atStart=>exact⟨0,y,na,nc,zero_le _,rfl,rfl,B.out,bz.out⟩
   case round=>
    clear B bz;obtain⟨j,r,bK,bM,hj,rfl,rfl,bc,f⟩:=hrel;have cO:=bc.len;have U:=bQ bc f;obtain⟨m0,m1,m2,m3⟩:=L.out wr f.box;clear bc f;by_cases bG:j<M.arcs.length;case neg=>
     obtain rfl:j=M.arcs.length:=by omega
     have m:=bP (U.out.1.close X.out Hp.out);go_wp2_with fail;exact⟨⟨k+1,r,bK,bM,by omega,by go_num,rfl,m.out,U.out.2⟩,by simp[intOf];omega⟩
    obtain⟨b,off,rfl,x0,x1,x2,x3⟩:=HA.out wr (A.out.below.trans (U.out.2.below.mono A.out.below.size)) j bG;obtain⟨a,a6⟩:∃a,M.arcs[j]=a:=⟨_,rfl⟩;have a7:M.arcs[j]?=some a:=by rw[getElem?_eq_getElem bG,a6]
    rw[a6]at x0 x1 x2 x3;have aH:=bP a7;obtain⟨y0,y1⟩:=bT.out wr U.out.2.below;have aP:p.tx.size<=1000000:=by omega
    have D:=zd (X.out.arcs a (mem_of_getElem? a7)).2.2.2;have bF:g<wr.heap.size:=Nat.lt_of_lt_of_le hg U.out.2.below.size;clear a6 a7;go_upto_region 17 with (fail);obtain⟨d,aK⟩:∃d:World,d=wr.alloc (.cells #[.int .i64 a.frm,.int .i64 a.inp,.int .i64 a.out,.int .i64 a.to] 171):=⟨_,rfl⟩;rw[<-aK];have P:Below wr.heap.size wr d:=by rw[aK];exact bX.alloc bW _
    have F:Blk d wr.heap.size #[.int .i64 a.frm,.int .i64 a.inp,.int .i64 a.out,.int .i64 a.to] 171:=by rw[aK];exact Blk.new _ _ _
    have s:=bP (fun(w':World) (c:Below d.heap.size d w')=>(show(w'.cell? ⟨wr.heap.size,0,none⟩=some (.int .i64 a.frm)/\w'.cell? ⟨wr.heap.size,1,none⟩=some (.int .i64 a.inp)/\w'.cell? ⟨wr.heap.size,2,none⟩=some (.int .i64 a.out)/\w'.cell? ⟨wr.heap.size,3,none⟩=some (.int .i64 a.to))/\w'.cell? ⟨g,o+k*2,none⟩=some (.int .i64 p.st)/\w'.cell? ⟨g,o+k*2+1,none⟩=some (.string p.tx)from
     ⟨⟨(F.below c F.lt).cell 0,(F.below c F.lt).cell 1,(F.below c F.lt).cell 2,(F.below c F.lt).cell 3⟩,((P.trans (c.mono P.size)).cell (p:=⟨g,_,none⟩) bF).trans y0,((P.trans (c.mono P.size)).cell (p:=⟨g,_,none⟩) bF).trans y1⟩))
    have cd:=bP (U.out.2.up P);have cS:=P.size;have cL:=F.lt;clear aK P F x0 x1 x2 x3 y0 y1 m0 m1 m2 m3;go_cut [13] (fun v wx=>v= .pointer (some ⟨d.heap.size,0,none⟩)/\Box wx d.heap.size (Plc.cells ⟨a.to,dM p.tx a.out⟩)/\Below d.heap.size d wx/\d.heap.size<wx.heap.size);case first=>
     refine wp_region_held_drew (S:=fun w'=>Below d.heap.size d w') (by kernel_rfl) (Go.below_drewN (Below.refl _ d) 1) (fun aI=>?_);refine tk [0,1,2,3,4,5,6,7,8] ?_;repeat ((refine tkt (v:=?_) ?_ ?_;rotate_left;·intro w' C;obtain⟨⟨s0,s1,s2,s3⟩,s4,s5⟩:=s.out w' C;go_simp<;>with_reducible rfl);try simp only[pS])
     refine tkn ?_;refine rd2 9 11 (fun K hK=>?_) (fun K hK=>?_)
     .go_simp;go_at_call 110;refine(j4 p.tx a.out aP D.1 D.2 _).mono ?_;rintro e w5 ⟨rfl,rfl⟩;refine hK.out _ _ (by exact Go.below_drewN (Below.refl _ d) 1) (fun _=>?_);clear hK K;try simp only[pS]
      refine tk [10] ?_;refine tkt (v:=?_) ?_ ?_;rotate_left
      .intro w' C;obtain⟨⟨s0,s1,s2,s3⟩,s4,s5⟩:=s.out w' C;go_simp<;>with_reducible rfl
      try simp only[pS]
      refine tkn ?_;refine rd1 11 (fun K hK=>?_);go_simp;refine hK.out _ _ (by exact((Below.refl _ d).alloc bW _).trans (Go.below_drewN bX 1)) (fun _=>?_);clear hK K;try simp only[pS]
      refine rd1 12 (fun K hK=>?_);go_simp;refine hK.out _ _ (by exact((Below.refl _ d).alloc bW _).trans (Go.below_drewN bX 1)) (fun _=>?_);clear hK K;try simp only[pS]
      refine wpAnyH_done (by kernel_rfl) ?_ _;go_wp2_with fail;go_meet;exact⟨rfl,Box.new d (Plc.cells ⟨a.to,dM p.tx a.out⟩) 169,((Below.refl _ d).alloc bW _).trans (Go.below_drewN bX 1),by simp⟩
     .go_simp;refine hK.out _ _ (by exact((Below.refl _ d).alloc bW _).trans (Go.below_drewN bX 1)) (fun _=>?_);clear hK K;try simp only[pS]
      refine rd1 9 (fun K hK=>?_);go_simp;go_at_call 110;refine(j4 p.tx a.out aP D.1 D.2 _).mono ?_;rintro e w5 ⟨rfl,rfl⟩;refine hK.out _ _ (by exact((Below.refl _ d).alloc bW _).trans (Go.below_drewN bX 1)) (fun _=>?_);clear hK K;try simp only[pS]
      refine tk [10] ?_;refine tkt (v:=?_) ?_ ?_;rotate_left
      .intro w' C;obtain⟨⟨s0,s1,s2,s3⟩,s4,s5⟩:=s.out w' C;go_simp<;>with_reducible rfl
      try simp only[pS]
      refine tkn ?_;refine rd1 12 (fun K hK=>?_);go_simp;refine hK.out _ _ (by exact((Below.refl _ d).alloc bW _).trans (Go.below_drewN bX 1)) (fun _=>?_);clear hK K;try simp only[pS]
      refine wpAnyH_done (by kernel_rfl) ?_ _;go_wp2_with fail;go_meet;exact⟨rfl,Box.new d (Plc.cells ⟨a.to,dM p.tx a.out⟩) 169,((Below.refl _ d).alloc bW _).trans (Go.below_drewN bX 1),by simp⟩
    case rest=>
     obtain⟨rfl,ay,aL,aB⟩:=hcut;obtain⟨wd,rfl⟩:∃wd:World,wd=wc:=⟨_,rfl⟩;obtain⟨z,hz⟩:∃z:Plc,z=⟨a.to,dM p.tx a.out⟩:=⟨_,rfl⟩;rw[<-hz]at ay;have HZ:=bP hz;obtain⟨⟨z0,z1,z2,z3⟩,z4,z5⟩:=s.out wd aL;have ak:=bP (cd.out.up aL);have ct:=aL.size;clear hz aL s;by_cases G:a.frm=p.st;case neg=>
      have d1:(a.frm==p.st)=false:=by simpa using G
      have m:=bP (U.out.1.aE aH.out (fun h=>G h.1));clear G;go_wp2_with fail;go_quiet (fail);go_wp2_with fail;exact⟨⟨j+1,r,_,_,by omega,by go_num,rfl,m.out,ak.out.up (Go.below_drewN bX _)⟩,by simp[intOf];omega⟩
     have d1:(a.frm==p.st)=true:=by simpa using G
     by_cases aq:0<a.inp;case neg=>
      have d2:decide (0<a.inp)=false:=decide_eq_false aq;have m:=bP (U.out.1.aE aH.out (fun h=>by have:=h.2.1;have:=h.2.2;omega));clear G aq;go_wp2_with fail;go_quiet (fail);go_wp2_with fail;exact⟨⟨j+1,r,_,_,by omega,by go_num,rfl,m.out,ak.out.up (Go.below_drewN bX _)⟩,by simp[intOf];omega⟩
     have d2:decide (0<a.inp)=true:=decide_eq_true aq;by_cases ad:a.inp=(x[n].toNat:Int);case neg=>
      have d3:(a.inp==(x[n].toNat:Int))=false:=by simpa using ad
      have m:=bP (U.out.1.aE aH.out (fun h=>ad h.2.1));clear G aq ad;go_wp2_with fail;go_quiet (fail);go_wp2_with fail;exact⟨⟨j+1,r,_,_,by omega,by go_num,rfl,m.out,ak.out.up (Go.below_drewN bX _)⟩,by simp[intOf];omega⟩
     have d3:(a.inp==(x[n].toNat:Int))=true:=by simpa using ad
     have m:=bP (show jN M (x[n].toNat:Int) ((n+1)*2001) ks k p (j+1) (eC r z)from by rw[HZ.out];exact U.out.1.hit X.out (mem_of_getElem? Hp.out) b3 aH.out ⟨G,ad⟩ (by omega));clear G aq ad;obtain⟨z6,z7⟩:=ay.c2;have s:=bP (fun(w':World) (c:Below wd.heap.size wd w')=>(show w'.cell? ⟨wr.heap.size,0,none⟩=some (.int .i64 a.frm)/\w'.cell? ⟨wr.heap.size,1,none⟩=some (.int .i64 a.inp)/\w'.cell? ⟨g,o+k*2,none⟩=some (.int .i64 p.st)/\w'.cell? ⟨d.heap.size,0,none⟩=some (.int .i64 z.st)/\w'.cell? ⟨d.heap.size,1,none⟩=some (.string z.tx)from by
      have bI:wr.heap.size<wd.heap.size:=by omega
      exact⟨(c.cell (p:=⟨wr.heap.size,_,none⟩) bI).trans z0,(c.cell (p:=⟨wr.heap.size,_,none⟩) bI).trans z1,(c.cell (p:=⟨g,_,none⟩) (by show g<wd.heap.size;omega)).trans z4,(c.cell (p:=⟨d.heap.size,_,none⟩) aB).trans z6,(c.cell (p:=⟨d.heap.size,_,none⟩) aB).trans z7⟩))
     have HH:=bP (fun(w':World) (c:Below wd.heap.size wd w')=>(show Calls prog 111 #[.slice bK r.length bM,.agg #[.int .i64 z.st,.string z.tx]] w' (fun e w5=>e= .returned (.bool (decide (z∈r)))/\Below w'.heap.size w' w5)from by
      obtain⟨ra,rc,e8,hr⟩:=(ak.out.up c).rows;cases e8
      exact(xB r z _ _ (by omega) w' hr)))
     clear z0 z1 z2 z3 z4 z5 z6 z7 ay ct aB;go_upto_region 18 with (fail);go_cut [105] (fun v wx=>v= .bool (!decide (z∈r))/\Below wd.heap.size wd wx);case first=>
      refine wp_region_held_drew (S:=fun w'=>Below wd.heap.size wd w') (by kernel_rfl) (Go.below_drewN (Below.refl _ wd) 1) (fun aI=>?_);refine tk [0,1,2,3,4,5,6,7,8,9,10,11,12,13,14,15,16,17,18,19,20,21,22,23,24] ?_;repeat ((refine tkt (v:=?_) ?_ ?_;rotate_left;·intro w' C;obtain⟨s0,s1,s2,s3,s4⟩:=s.out w' C;go_simp<;>with_reducible rfl);try simp only[pS])
      refine tkn ?_;refine rd1 25 (fun K hK=>?_);go_simp;go_at_call 111;refine(HH.out _ (Go.below_drewN (Below.refl _ wd) 1)).mono ?_;rintro e w5 ⟨rfl,a8⟩;have al:Below wd.heap.size wd w5:=(Go.below_drewN (Below.refl _ wd) 1).trans a8;refine hK.out _ _ al (fun _=>?_);clear hK K;try simp only[pS]
      refine tk [26,27] ?_;repeat ((refine tkt (v:=?_) ?_ ?_;rotate_left;·intro w' C;obtain⟨s0,s1,s2,s3,s4⟩:=s.out w' C;go_simp<;>with_reducible rfl);try simp only[pS])
      refine tkn ?_;refine wpAnyH_done (by kernel_rfl) ?_ _;go_wp2_with fail;go_meet;exact⟨rfl,al⟩
     case rest=>
      obtain⟨rfl,t⟩:=hcut;have aG:=bP (ak.out.up t);obtain⟨z6,z7⟩:wc.cell? ⟨d.heap.size,0,none⟩=some (.int .i64 z.st)/\wc.cell? ⟨d.heap.size,1,none⟩=some (.string z.tx):=(s.out wc t).2.2.2;clear t s HH;by_cases hm:z∈r
      .have O:eC r z=r:=by unfold eC;rw[if_pos hm]
       have aU:=bP (show jN M (x[n].toNat:Int) ((n+1)*2001) ks k p (j+1) r from by rw[<-O];exact m.out);rw[decide_eq_true hm];clear hm O;go_wp2_with fail;exact⟨⟨j+1,r,_,_,by omega,by go_num,rfl,aU.out,aG.out⟩,by simp[intOf];omega⟩
      .have O:eC r z=r++[z]:=by unfold eC;rw[if_neg hm]
       have aU:=bP (show jN M (x[n].toNat:Int) ((n+1)*2001) ks k p (j+1) (r++[z])from by rw[<-O];exact m.out);rw[decide_eq_false hm];have cT:=aG.out.size;clear hm O;go_wp2_with (at_builtin;refine wpList_append_own_at _ rfl _ _ 165 rfl H.heap.size 169 ja _ 2 24 underlying165 bU bV b0 b1 rfl (by decide) _ _ _ rfl (aG.out.own.alloc _) ⟨wc.heap.size,0,none⟩ 1 1 z.cells rfl rfl (by exact dQ _ _ _) (by simp[Value.oneCell',Plc.cells]) (by unfold maxLen;omega) (by omega) (by simp;omega) ?_);intro v5 w5 ai ao _ _;have h5:=aG.out.app ai ao;obtain⟨bJ,bL,rfl, -, -⟩:=b8.ah ai;have H5:=bP (show eW H w.heap.size H.heap.size Y (.slice bJ (r++[z]).length bL) (r++[z]) w5 from by rw[length_append];exact h5);have cp:r.length+1=(r++[z]).length:=by simp
       rw[cp];clear ai ao h5;go_wp2_with fail;exact⟨⟨j+1,r++[z],bJ,bL,by omega,by go_num,rfl,aU.out,H5.out⟩,by simp[intOf];omega⟩
end
end Go.Proofs.YtmhdgddjeadjjaaGreatDoor
