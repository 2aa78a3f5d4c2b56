/- A part of the proof: what the claim reaches. -/
import Derived.Test.YtmhdgddjeadjjaaGreatDoorP33
import Derived.Test.YtmhdgddjeadjjaaGreatDoorP40
namespace Go.Proofs.YtmhdgddjeadjjaaGreatDoor
open _root_.List Go.Lib _root_.Nat Go.World _root_.Int Go.Proofs.Tryz
section
open Go.RowKit Go.Shelf Classical
attribute [local go_sem] gB fU
set_option maxRecDepth 100000
theorem sU (w:World):Calls prog 20 #[] w fun e w'=>
  e= .returned (.slice (some ⟨w.heap.size,0,none⟩) 3 3)/\c8 w' w'.heap.size 4 (some ⟨w.heap.size,0,none⟩) (exS.map Sht.cells)/\Below w.heap.size w w':=by
 have a:=bP (oy (k:=4) (rows:=exS.map Sht.cells) (Blk.new w (exS.map Sht.cells).flatten.toArray 51) (by intro r b;obtain⟨s,_,rfl⟩:=mem_map.1 b;rfl));go_enter func20,ntmps20;go_wp2;go_ret;exact⟨rfl,a.out,bX.alloc bW _⟩
theorem wv:∀s∈exS,s.fits:=fun s a=>by
 have h:=(nY.each s a);refine⟨?_,Nat.le_trans h.2.1.2.2 (by decide),Nat.le_trans h.2.2.1.2.2 (by decide)⟩;simp only[exS,mem_cons,not_mem_nil,or_false]at a;rcases a with rfl |rfl |rfl<;>decide
theorem mf {w:World}{n:Nat}(h:w.heap.size=n)(cs:Array Value)(t:TypeId):Blk (w.alloc (.cells cs t)) n cs t:=h▸Blk.new w cs t
theorem Et {w W:World}{o:Nat}{c0 c1 c2 c3 c4 b c:Array Value}{t0 t1 t2 t3 t4 t5 t6:TypeId}(a:w.heap.size=o)
  (d:W=((((((w.alloc (.cells c0 t0)).alloc (.cells c1 t1)).alloc (.cells c2 t2)).alloc (.cells c3 t3)).alloc (.cells c4 t4)).alloc (.cells b t5)).alloc (.cells c t6)):
  Blk W o c0 t0/\Blk W (o+1) c1 t1/\Blk W (o+2) c2 t2/\Blk W (o+3) c3 t3/\Blk W (o+4) c4 t4/\Blk W (o+5) b t5/\Blk W (o+6) c t6/\Below w.heap.size w W:=by
 subst d;refine⟨((((((mf a _ _).alloc _).alloc _).alloc _).alloc _).alloc _).alloc _,(((((mf (by simp[a]) _ _).alloc _).alloc _).alloc _).alloc _).alloc _,((((mf (by simp[a]) _ _).alloc _).alloc _).alloc _).alloc _,(((mf (by simp[a]) _ _).alloc _).alloc _).alloc _,((mf (by simp[a]) _ _).alloc _).alloc _,(mf (by simp[a]) _ _).alloc _,mf (by simp[a]) _ _,?_⟩;exact((((((bX.alloc bW _).alloc (by simp) _).alloc (by simp;omega) _).alloc (by simp;omega) _).alloc (by simp;omega) _).alloc (by simp;omega) _).alloc (by simp;omega) _
def exL (o:Nat):List Spl:=[⟨some ⟨o,0,none⟩,2,[stS,nS],0⟩,⟨some ⟨o+1,0,none⟩,2,[gU,nS],1⟩,⟨some ⟨o+2,0,none⟩,2,[iV,nS],2⟩,⟨some ⟨o+3,0,none⟩,2,[stS,noS],3⟩,⟨some ⟨o+4,0,none⟩,2,[gU,noS],4⟩,⟨some ⟨o+5,0,none⟩,2,[iV,noS],5⟩]
theorem Co {c:List ByteArray}{a b:List UInt8}(h:c.map bl=[a,b]):c=[bs a,bs b]:=by
 match c,h with
 |[x,y],h=>
  simp only[map_cons,map_nil,cons.injEq,and_true]at h;rw[cY (h.1.trans (cZ a).symm),cY (h.2.trans (cZ b).symm)]
theorem Bf (v:Value)(w:World)(h:dm w w.heap.size v exB):Calls prog 11 #[v,.agg #[.string ⟨#[101,110]⟩,.int .i64 1,.string ⟨#[67,65,78,32,32,78,65]⟩]] w fun e w'=>e= .returned (.bool false)/\Below w.heap.size w w':=by
 have:=lF exB v enS ⟨#[67,65,78,32,32,78,65]⟩ 1 (by decide) (by decide) w h;rw[decide_eq_false (show¬dB exB enS 1 (bl ⟨#[67,65,78,32,32,78,65]⟩)from yg)]at this;exact this
theorem Bg (v:Value)(w:World)(h:dm w w.heap.size v exB):Calls prog 11 #[v,.agg #[.string ⟨#[101,110]⟩,.int .i64 0,.string ⟨#[110,97]⟩]] w fun e w'=>e= .returned (.bool true)/\Below w.heap.size w w':=by
 have:=lF exB v enS ⟨#[110,97]⟩ 0 (by decide) (by decide) w h;rw[decide_eq_true (show dB exB enS 0 (bl ⟨#[110,97]⟩)from wF)]at this;exact this
theorem CZ (v:Value)(w:World)(h:dm w w.heap.size v exB)(i:Int)(t:ByteArray)(q:Bool)(a:(i=1/\t=⟨#[67,65,78,32,32,78,65]⟩/\q=false)\/(i=0/\t=⟨#[110,97]⟩/\q=true)):
  Calls prog 11 #[v,.agg #[.string ⟨#[101,110]⟩,.int .i64 i,.string t]] w fun e w'=>e= .returned (.bool q)/\Below w.heap.size w w':=by
 rcases a with ⟨rfl,rfl,rfl⟩ |⟨rfl,rfl,rfl⟩
 .exact Bf v w h
 .exact Bg v w h
theorem Be (a:Option Addr)(w:World)(h:c8 w w.heap.size 4 a (exS.map Sht.cells)):Calls prog 16 #[.slice a 3 3] w fun e w'=>e= .returned (.bool true)/\Below w.heap.size w w':=by
 have:=nM exS a 3 (by decide) wv w h;rw[decide_eq_true nY]at this;exact this
set_option maxHeartbeats 4000000
theorem zP (w:World):Calls prog 4 #[] w fun e w'=>e= .returned (.bool true)/\Below w.heap.size w w':=by
 go_enter func4,ntmps4;go_upto_region 2 with (fail);obtain⟨l,E⟩:∃l:World,l=w.alloc (.cells #[.string ⟨#[101,110]⟩,.int .i64 1,.string ⟨#[67,65,78,32,78,65]⟩] 27):=⟨_,rfl⟩;rw[<-E];have ax:Below w.heap.size w l:=by rw[E];exact bX.alloc bW _
 have t:Blk l w.heap.size #[.string ⟨#[101,110]⟩,.int .i64 1,.string ⟨#[67,65,78,32,78,65]⟩] 27:=by rw[E];exact Blk.new _ _ _
 clear E;obtain⟨b,hb⟩:∃b,w.heap.size=b:=⟨_,rfl⟩;rw[hb]at t⊢;have H1:=bS ax t hb;have x0:l.cell? ⟨b,0,none⟩=some (.string ⟨#[101,110]⟩):=t.cell 0;have x1:l.cell? ⟨b,1,none⟩=some (.int .i64 1):=t.cell 1;have x2:l.cell? ⟨b,2,none⟩=some (.string ⟨#[67,65,78,32,78,65]⟩):=t.cell 2;clear ax t hb;go_cut [2,3] (fun s e wx=>s= .string ⟨#[99,104,97,110,32,110,97]⟩/\e= .int .i64 0/\Below l.heap.size l wx);case first=>
  go_region_held3 (fun w'=>w'.cell? ⟨b,0,none⟩=some (.string ⟨#[101,110]⟩)/\w'.cell? ⟨b,1,none⟩=some (.int .i64 1)/\w'.cell? ⟨b,2,none⟩=some (.string ⟨#[67,65,78,32,78,65]⟩))
   (first |exact⟨x0,x1,x2⟩ |exact⟨y0,y1,y2⟩ |exact⟨z0,z1,z2⟩ |go_keep)
   (first |(go_at_call 19;refine(qF _).mono ?_;rintro e m ⟨v,rfl,hv,f⟩;have g:Below l.heap.size l m:=(by first |exact f |exact((Below.refl _ l).drew).trans f);have d:=H1.out.2.1.below g H1.out.2.1.lt;have y0:m.cell? ⟨b,0,none⟩=some (.string ⟨#[101,110]⟩):=d.cell 0;have y1:m.cell? ⟨b,1,none⟩=some (.int .i64 1):=d.cell 1;have y2:m.cell? ⟨b,2,none⟩=some (.string ⟨#[67,65,78,32,78,65]⟩):=d.cell 2;have z:=bQ hv g;obtain⟨a1,c1,a2,c2,rfl, -, -, -, -⟩:=hv;clear f g d) |(go_at_call 7;refine(yE exB _ enS ⟨#[67,65,78,32,78,65]⟩ 1 (by decide) (by decide) m z.out.1).mono ?_;rintro e wK ⟨s,err,rfl,hK,aA⟩;obtain⟨rfl,hs⟩:=ED hK;obtain rfl:s=⟨#[99,104,97,110,32,110,97]⟩:=cY hs;have Y:=z.out.2.trans (aA.mono z.out.2.size);have J:=H1.out.2.1.below Y H1.out.2.1.lt;have z0:wK.cell? ⟨b,0,none⟩=some (.string ⟨#[101,110]⟩):=J.cell 0;have z1:wK.cell? ⟨b,1,none⟩=some (.int .i64 1):=J.cell 1;have z2:wK.cell? ⟨b,2,none⟩=some (.string ⟨#[67,65,78,32,78,65]⟩):=J.cell 2;have aX:=bP Y;clear Y J aA hK hs) |fail)
  all_goals (go_wp2_with fail;go_meet;exact⟨rfl,rfl,aX.out⟩)
 case rest=>
  obtain⟨rfl,rfl,V⟩:=hcut;have Q:=bQ (H1.out.1.trans (V.mono H1.out.1.size)) (H1.out.2.1.below V H1.out.2.1.lt);clear V x0 x1 x2;go_wp2_with (go_at_call 20;refine(sU wc).mono ?_;rintro e r ⟨rfl,T,Z⟩);obtain⟨O,F⟩:∃O:World,O=r.alloc (.cells #[.string ⟨#[115,116]⟩,.string ⟨#[110]⟩] 9):=⟨_,rfl⟩;rw[<-F];have I:Below r.heap.size r O:=by rw[F];exact bX.alloc bW _
  have aB:Blk O r.heap.size #[.string ⟨#[115,116]⟩,.string ⟨#[110]⟩] 9:=by rw[F];exact Blk.new _ _ _
  have D:Below wc.heap.size wc O:=Z.trans (I.mono Z.size);clear F;refine(tP exS [stS,nS] _ _ 3 2 (by decide) wv (by decide) O ((T.below I bW).more I.size) (dE (xs:=strs [stS,nS]) aB)).mono ?_;rintro e p ⟨ov,L,err,rfl,aH,aD,ae,ay⟩;obtain⟨u,rfl⟩:=CX aH;obtain⟨la,lc,rfl, -,aF⟩:=b8.ah aD;have aa:=D.trans (ay.mono D.size);have aw:fG p p.heap.size la L:=⟨aF,fun x hx=>⟨(ae x hx).1,by
   obtain⟨a,c,e1, -,e2⟩:=b8.ah (ae x hx).2;cases e1
   exact e2⟩⟩
  have au:L.length=6:=by have:=congrArg length u;rw[length_map]at this;exact this
  have y:=bT aw u aa au;clear aw u aa au aF aD ae aH ay D aB I T Z;go_upto_region 5 with (fail);obtain⟨C,U⟩:∃C:World,C=((((((p.alloc (.cells #[.string ⟨#[115,116]⟩,.string ⟨#[110]⟩] 9)).alloc (.cells #[.string ⟨#[115,116,114,101,101,116]⟩,.string ⟨#[110]⟩] 9)).alloc (.cells #[.string ⟨#[115,97,105,110,116]⟩,.string ⟨#[110]⟩] 9)).alloc (.cells #[.string ⟨#[115,116]⟩,.string ⟨#[110,111]⟩] 9)).alloc (.cells #[.string ⟨#[115,116,114,101,101,116]⟩,.string ⟨#[110,111]⟩] 9)).alloc (.cells #[.string ⟨#[115,97,105,110,116]⟩,.string ⟨#[110,111]⟩] 9)).alloc
   (.cells #[.slice (some ⟨p.heap.size,0,none⟩) 2 2,.int .i64 0,.slice (some ⟨p.heap.size+1,0,none⟩) 2 2,.int .i64 1,.slice (some ⟨p.heap.size+1+1,0,none⟩) 2 2,.int .i64 2,.slice (some ⟨p.heap.size+1+1+1,0,none⟩) 2 2,.int .i64 3,.slice (some ⟨p.heap.size+1+1+1+1,0,none⟩) 2 2,.int .i64 4,.slice (some ⟨p.heap.size+1+1+1+1+1,0,none⟩) 2 2,.int .i64 5] 48):=⟨_,rfl⟩
  rw[<-U];obtain⟨q0,q1,q2,q3,q4,q5,q6,k⟩:=Et rfl U;clear U;obtain⟨o,ho⟩:∃o,p.heap.size=o:=⟨_,rfl⟩;rw[ho]at q0 q1 q2 q3 q4 q5 q6 k⊢;have hM:fG C C.heap.size (some ⟨o+6,0,none⟩) (exL o):=⟨dE (xs:=(exL o).flatMap Spl.cells) q6,fun x hx=>by
   simp only[exL,mem_cons,not_mem_nil,or_false]at hx;rcases hx with rfl |rfl |rfl |rfl |rfl |rfl
   .exact⟨by show 2<=maxLen;decide,dE (xs:=strs [stS,nS]) q0⟩
   .exact⟨by show 2<=maxLen;decide,dE (xs:=strs [gU,nS]) q1⟩
   .exact⟨by show 2<=maxLen;decide,dE (xs:=strs [iV,nS]) q2⟩
   .exact⟨by show 2<=maxLen;decide,dE (xs:=strs [stS,noS]) q3⟩
   .exact⟨by show 2<=maxLen;decide,dE (xs:=strs [gU,noS]) q4⟩
   .exact⟨by show 2<=maxLen;decide,dE (xs:=strs [iV,noS]) q5⟩⟩
  have ar:fG C C.heap.size la L:=by
   exact(y.out.1.below (by rw[ho];exact k) bW).more k.size
  have M:decide (L.map Spl.key=(exL o).map Spl.key)=true:=decide_eq_true y.out.2.1;have HS:=bP (vE L (exL o) la (some ⟨o+6,0,none⟩) lc 6 (by rw[y.out.2.2.2];decide) (by show 6<=maxLen;decide) C ar hM);rw[M]at HS;have H5:=bQ (Q.out.1.trans ((y.out.2.2.1.trans (by rw[<-ho]at k;exact k.mono y.out.2.2.1.size)).mono Q.out.1.size)) (Q.out.2.below (y.out.2.2.1.trans (by rw[<-ho]at k;exact k.mono y.out.2.2.1.size)) Q.out.2.lt);clear hM ar M q0 q1 q2 q3 q4 q5 q6 k ho;go_wp2_with (go_at_call 18;refine HS.out.mono ?_;rintro e w6 ⟨rfl,q,aI⟩;have aq:=bP aI;clear aI);have R:=bP (show Below w.heap.size w w6/\Blk w6 b #[.string ⟨#[101,110]⟩,.int .i64 1,.string ⟨#[67,65,78,32,78,65]⟩] 27 from by rw[aq.out];exact⟨Go.below_drewN H5.out.1 _,H5.out.2⟩);clear H5 aq HS;refine(tR ⟨#[32,97,32,32,98,32]⟩ (by decide) w6).mono ?_;rintro e w7 ⟨v,ys,rfl,aK,aE,X⟩;obtain rfl:=Co (a:=[97]) (b:=[98]) aK;obtain⟨ya,yc,rfl, -,aG⟩:=b8.ah aE;have N:=bS (R.out.1.trans (X.mono R.out.1.size)) (R.out.2.below X R.out.2.lt) aG;clear R aK aE X aG;go_wp2_with fail;obtain⟨P,G⟩:∃P:World,P=w7.alloc (.cells #[.string ⟨#[97]⟩,.string ⟨#[98]⟩] 9):=⟨_,rfl⟩;rw[<-G];have A:Below w7.heap.size w7 P:=by rw[G];exact bX.alloc bW _
  have aC:Blk P w7.heap.size #[.string ⟨#[97]⟩,.string ⟨#[98]⟩] 9:=by rw[G];exact Blk.new _ _ _
  clear G;refine(mG [bs [97],bs [98]] [bs [97],bs [98]] ya (some ⟨w7.heap.size,0,none⟩) yc 2 P.heap.size (by show 2<=maxLen;decide) P ((N.out.2.2.below A bW).more A.size) (dE (xs:=strs [bs [97],bs [98]]) aC)).mono ?_;rintro e w9 ⟨rfl,q2,aJ⟩;rw[decide_eq_true (rfl:[bs [97],bs [98]]=[bs [97],bs [98]])];have S:=bP (show Below w.heap.size w w9/\Blk w9 b #[.string ⟨#[101,110]⟩,.int .i64 1,.string ⟨#[67,65,78,32,78,65]⟩] 27 from by
   have aO:=N.out.2.1.below A N.out.2.1.lt;rw[aJ];exact⟨Go.below_drewN (N.out.1.trans (A.mono N.out.1.size)) _,aO⟩)
  clear aJ N A aC y Q;have y2:w9.cell? ⟨b,2,none⟩=some (.string ⟨#[67,65,78,32,78,65]⟩):=S.out.2.cell 2;have yf:w9.frozen? ⟨b,2,none⟩=false:=S.out.2.frozen 2;go_upto_region 7 with (fail);obtain⟨j,H⟩:∃j:World,j=w9.setCell ⟨b,2,none⟩ (.string ⟨#[67,65,78,32,32,78,65]⟩):=⟨_,rfl⟩;rw[<-H];have az:Below w.heap.size w j:=by rw[H];exact S.out.1.setCell (by show w.heap.size<=b;rw[H1.out.2.2];exact bW) _
  have B:Blk j b #[.string ⟨#[101,110]⟩,.int .i64 1,.string ⟨#[67,65,78,32,32,78,65]⟩] 27:=by rw[H];exact S.out.2.aj 2 _
  clear y2 yf H;have x0:j.cell? ⟨b,0,none⟩=some (.string ⟨#[101,110]⟩):=B.cell 0;have x1:j.cell? ⟨b,1,none⟩=some (.int .i64 1):=B.cell 1;have x2:j.cell? ⟨b,2,none⟩=some (.string ⟨#[67,65,78,32,32,78,65]⟩):=B.cell 2;have n:=bQ az B;have i:=bP (Below.refl j.heap.size j);clear az B S;go_region_held3 (fun w'=>w'.cell? ⟨b,0,none⟩=some (.string ⟨#[101,110]⟩)/\w'.cell? ⟨b,1,none⟩=some (.int .i64 1)/\w'.cell? ⟨b,2,none⟩=some (.string ⟨#[67,65,78,32,32,78,65]⟩))
   (first |exact⟨y0,y1,y2⟩ |exact⟨x0,x1,x2⟩ |go_keep)
   (first |(go_at_call 19;refine(qF _).mono ?_;rintro e m ⟨v,rfl,hv,f⟩;have g:Below j.heap.size j m:=(by first |exact i.out.trans (f.mono i.out.size) |exact i.out.drew.trans (f.mono i.out.drew.size));have d:=n.out.2.below g n.out.2.lt;have y0:m.cell? ⟨b,0,none⟩=some (.string ⟨#[101,110]⟩):=d.cell 0;have y1:m.cell? ⟨b,1,none⟩=some (.int .i64 1):=d.cell 1;have y2:m.cell? ⟨b,2,none⟩=some (.string ⟨#[67,65,78,32,32,78,65]⟩):=d.cell 2;have i:=bP g;clear g d;have z:=bP hv;obtain⟨a1,c1,a2,c2,rfl, -, -, -, -⟩:=hv;clear f) |(go_at_call 11;refine(CZ _ m z.out _ _ _ (by first |exact .inl ⟨rfl,rfl,rfl⟩ |exact .inr ⟨rfl,rfl,rfl⟩)).mono ?_;rintro e wV ⟨rfl,f⟩;have g:Below j.heap.size j wV:=(by first |exact i.out.trans (f.mono i.out.size) |exact i.out.drew.trans (f.mono i.out.drew.size));have d:=n.out.2.below g n.out.2.lt;have y0:wV.cell? ⟨b,0,none⟩=some (.string ⟨#[101,110]⟩):=d.cell 0;have y1:wV.cell? ⟨b,1,none⟩=some (.int .i64 1):=d.cell 1;have y2:wV.cell? ⟨b,2,none⟩=some (.string ⟨#[67,65,78,32,32,78,65]⟩):=d.cell 2;have i:=bP g;clear g d;clear f) |(go_at_call 20;refine(sU _).mono ?_;rintro e r ⟨rfl,T,f⟩;have g:Below j.heap.size j r:=(by first |exact i.out.trans (f.mono i.out.size) |exact i.out.drew.trans (f.mono i.out.drew.size));have d:=n.out.2.below g n.out.2.lt;have y0:r.cell? ⟨b,0,none⟩=some (.string ⟨#[101,110]⟩):=d.cell 0;have y1:r.cell? ⟨b,1,none⟩=some (.int .i64 1):=d.cell 1;have y2:r.cell? ⟨b,2,none⟩=some (.string ⟨#[67,65,78,32,32,78,65]⟩):=d.cell 2;have i:=bP g;clear g d;have HR:=bP T;clear f T) |(go_at_call 16;refine(Be _ r HR.out).mono ?_;rintro e wP ⟨rfl,f⟩;have g:Below j.heap.size j wP:=(by first |exact i.out.trans (f.mono i.out.size) |exact i.out.drew.trans (f.mono i.out.drew.size));have d:=n.out.2.below g n.out.2.lt;have y0:wP.cell? ⟨b,0,none⟩=some (.string ⟨#[101,110]⟩):=d.cell 0;have y1:wP.cell? ⟨b,1,none⟩=some (.int .i64 1):=d.cell 1;have y2:wP.cell? ⟨b,2,none⟩=some (.string ⟨#[67,65,78,32,32,78,65]⟩):=d.cell 2;have i:=bP g;clear g d;clear f) |fail)
  all_goals (go_wp2_with fail;go_ret;exact⟨rfl,n.out.1.trans (i.out.mono n.out.1.size)⟩)
end
section
open Go.RowKit Go.Shelf Classical
theorem Ay {l:List Sht}{W:List ByteArray}{a b:List (List ByteArray×Int)}{e f:Int}(h:dq l W a e)(k:dq l W b f):a=b/\e=f:=dq.same (fun _ _ _=>Iff.rfl) Iff.rfl h k
set_option maxRecDepth 100000
set_option maxHeartbeats 4000000
theorem vh (b:cC)(v:Value)(lang:ByteArray)(i:Int)(j text:ByteArray)(l:List Sht)(W:List ByteArray)(E wa:Option Addr)(lc Y:Nat)(w:World)(h:dm w w.heap.size v b)(g:lang.size<=maxLen)(b4:j.size<=maxLen)(_:text.size<=maxLen)
  (hl:l.length<=maxLen)(M:∀s∈l,s.fits)(hW:W.length<=maxLen)(b1:∀s∈W,s.size<=maxLen)(bq:c8 w w.heap.size 4 E (l.map Sht.cells))(bx:b8 w w.heap.size wa (strs W)):
  Calls prog 3 #[v,.agg #[.string lang,.int .i64 i,.string j],.string text,.slice E l.length lc,.slice wa W.length Y] w fun e w'=>e= .returned (.bool true)/\Below w.heap.size w w':=by
 have hB:=h;obtain⟨a,c,Z,c',rfl,b2,b3,bV,bZ⟩:=h;clear b2 b3 bV bZ;go_enter func3,ntmps3;go_upto_region 1 with (fail);generalize C:((w.alloc _).alloc _)=F;have ay:Below w.heap.size w F:=by rw[<-C];exact(bX.alloc bW _).alloc (by simp) _
 have b5:F.heap.size=w.heap.size+2:=by rw[<-C];simp
 have bk:Box F w.heap.size [.slice a b.ae.length c,.slice Z b.rules.length c']:=by
  rw[<-C];exact(Box.new _ _ _).alloc (by simp) _
 have bj:Box F (w.heap.size+1) [.string lang,.int .i64 i,.string j]:=by
  rw[<-C];have:=(Box.new (w.alloc (.cells #[.slice a b.ae.length c,.slice Z b.rules.length c'] 25)) [.string lang,.int .i64 i,.string j] 27);simp at this;exact this
 have k:=bP (fun(wr:World) (o:Below F.heap.size F wr)=>(show(wr.cell? ⟨w.heap.size,0,none⟩=some (.slice a b.ae.length c)/\wr.cell? ⟨w.heap.size,1,none⟩=some (.slice Z b.rules.length c'))/\(wr.cell? ⟨w.heap.size+1,0,none⟩=some (.string lang)/\wr.cell? ⟨w.heap.size+1,1,none⟩=some (.int .i64 i)/\wr.cell? ⟨w.heap.size+1,2,none⟩=some (.string j))/\
   dm wr wr.heap.size (.agg #[.slice a b.ae.length c,.slice Z b.rules.length c']) b/\(c8 wr wr.heap.size 4 E (l.map Sht.cells)/\b8 wr wr.heap.size wa (strs W))/\Below w.heap.size w wr from by
  have m:Below w.heap.size w wr:=ay.trans (o.mono ay.size);exact⟨(bk.below o (by omega)).c2,(bj.below o (by omega)).c3,(hB.below m bW).more m.size,⟨(bq.below m bW).more m.size,(bx.below m bW).more m.size⟩,m⟩))
 clear C ay bk bj hB b5 bq bx;go_upto_region 2 with (go_at_call 4;refine(zP F).mono ?_;rintro e w1 ⟨rfl,an⟩);obtain⟨⟨m0,m1⟩,⟨n0,N,O⟩,ba, -,az⟩:=k.out w1 an;have HF:=bP (Bk b _ lang j i g b4 w1 ba);have af:=bP an;clear an ba;by_cases ht:text.size<=450;case neg=>
  have cJ:450<text.size:=by omega
  clear ht;go_wp2_with fail;refine HF.out.mono ?_;rintro e w2 ⟨⟨q,rfl,y⟩,D⟩;have a7:=bP (az.trans (D.mono az.size));clear m0 m1 n0 N O D HF y;cases q with
  |false=>
   go_wp2_with fail;go_ret;exact⟨rfl,a7.out⟩
  |true=>
   go_wp2_with fail;go_ret;exact⟨rfl,a7.out⟩
 go_wp2_with fail;refine HF.out.mono ?_;rintro e w2 ⟨⟨q,rfl,y⟩,D⟩;have R:=bP (af.out.trans (D.mono af.out.size));clear m0 m1 n0 N O D HF af az;obtain⟨⟨m0,m1⟩,⟨n0,N,O⟩,bb,⟨br,u⟩,aB⟩:=k.out w2 R.out;cases q with
 |false=>
  go_wp2_with fail;go_ret;exact⟨rfl,aB⟩
 |true=>
 have cy:=y rfl;have aP:=bP (zh l W E wa lc Y hl hW M b1 w2 br u);clear y br u;go_wp2_with fail;refine aP.out.mono ?_;rintro e cm ⟨⟨q,rfl,y⟩,b6⟩;subst b6;cases q with
 |false=>
  go_wp2_with fail;go_ret;exact⟨rfl,aB⟩
 |true=>
 obtain⟨⟨cx,cD⟩,bm,bz⟩:=y rfl;have ad:=bQ bm bz;have aQ:=bP (yE b _ lang j i g (by omega) cm bb);clear y bb aB bm bz aP;go_wp2_with fail;refine aQ.out.mono ?_;rintro e w3 ⟨s,err,rfl,bp,bf⟩;have T:=bP (R.out.trans (bf.mono R.out.size));have a6:=bP bp;clear m0 m1 n0 N O bf aQ R bp;obtain⟨⟨m0,m1⟩,⟨n0,N,O⟩,bc, -, -⟩:=k.out w3 T.out;have aT:=bP (Ao b _ lang j i g (by omega) w3 bc);clear bc;go_wp2_with fail;refine aT.out.mono ?_;rintro e w4 ⟨s',cB,rfl,ar,bg⟩;have U:=bP (T.out.trans (bg.mono T.out.size));obtain⟨bu,rfl⟩:=fF.uniq a6.out ar;obtain rfl:=cY bu;clear m0 m1 n0 N O bg aT T ar bu a6;obtain⟨-, -, -,⟨n,r2⟩, -⟩:=k.out w4 U.out;have aU:=bP (tP l W E wa lc Y hl M hW w4 n r2);clear n r2;go_wp2_with fail;refine aU.out.mono ?_;rintro e z hp;obtain⟨a1,c1,L1,e1,rfl,bt,bd,bh⟩:=hp.read;have V:=bP (U.out.trans (bh.mono U.out.size));have H5:=bQ bt bd;clear hp bt bd bh aU U;obtain⟨-, -, -,⟨n,r2⟩, -⟩:=k.out z V.out;have aV:=bP (zj l W E wa lc Y (by omega) (fun s hs=>by have:=ad.out.1 s hs;omega) (by omega) (fun s hs=>by have:=ad.out.2 s hs;omega) z n r2);clear n r2;go_wp2_with fail;refine aV.out.mono ?_;rintro e d hp;obtain⟨a2,c2,L2,e2,rfl,u,be,X⟩:=hp.read;have f:=bP (V.out.trans (X.mono V.out.size));obtain⟨aq,rfl⟩:=Ay H5.out.1 u;have N:L1.length<=64:=by have:=H5.out.1.err.1;rwa [length_map]at this
 have O:L2.length<=64:=by have:=u.err.1;rwa [length_map]at this
 have H6:=bS aq ((H5.out.2.below X bW).more X.size) be;clear hp u be X aV V aq H5;have Q:=bP (fun(w':World) (o:Below d.heap.size d w')=>And.intro (k.out w' (f.out.trans (o.mono f.out.size))).1 (k.out w' (f.out.trans (o.mono f.out.size))).2.1);obtain⟨nb,au⟩:∃q:Bool,decide (dB b lang i (bl j))=q:=⟨_,rfl⟩;have aY:=bP (fun(w':World) (o:Below d.heap.size d w')=>(show Calls prog 11 #[.agg #[.slice a b.ae.length c,.slice Z b.rules.length c'],.agg #[.string lang,.int .i64 i,.string j]] w' (fun e z=>e= .returned (.bool nb)/\Below w'.heap.size w' z)from by
  rw[<-au];exact lF b _ lang j i g (by omega) w' (k.out w' (f.out.trans (o.mono f.out.size))).2.2.1))
 have aZ:=bP (fun(w':World) (o:Below d.heap.size d w')=>(show Calls prog 12 #[.agg #[.slice a b.ae.length c,.slice Z b.rules.length c'],.agg #[.string lang,.int .i64 i,.string j]] w' (fun e z=>e= .returned (.bool nb)/\Below w'.heap.size w' z)from by
  rw[<-au];exact p9 b _ lang j i g (by omega) w' (k.out w' (f.out.trans (o.mono f.out.size))).2.2.1))
 have aW:=bP (fun(w':World)=>tR text (by omega) w');have aX:=bP (fun(w':World)=>nO text (by omega) w');have HT:=bP (fun(w':World) (A P:List ByteArray) (ya za:Option Addr) (yc zc:Nat) (cb:A=P) (aC:A.length<=maxLen) (hy:b8 w' w'.heap.size ya (strs A)) (hz:b8 w' w'.heap.size za (strs P))=>(show Calls prog 13 #[.slice ya A.length yc,.slice za P.length zc] w' (fun e z=>e= .returned (.bool true)/\Below w'.heap.size w' z)from by
  have h9:=mG A P ya za yc zc w'.heap.size aC w' hy hz;rw[decide_eq_true cb]at h9;refine h9.mono ?_;rintro e z ⟨rfl,q,y⟩;exact⟨rfl,by rw[y];exact Go.below_drewN bX q⟩))
 clear au;go_upto_region 8 with (fail);go_cut [20] (fun v wx=>v= .bool true/\Below d.heap.size d wx);case first=>
  refine wp_region_held_drew (S:=fun w'=>Below d.heap.size d w') (by kernel_rfl) (Go.below_drewN (Below.refl _ d) 1) (fun cw=>?_);have G:Below d.heap.size d d.drew:=Go.below_drewN (Below.refl _ d) 1;refine tk [0,1,3,4] ?_;repeat ((refine tkt (v:=?_) ?_ ?_;rotate_left;·intro w' B;obtain⟨⟨s0,s1⟩,s2,s3,s4⟩:=Q.out w' B;go_simp<;>with_reducible rfl);try simp only[pS])
  refine tkn ?_;refine rd1 2 (fun K hK=>?_);go_simp;go_at_call 11;refine(aY.out _ G).mono ?_;rintro e cq ⟨rfl,bD⟩;have x:Below d.heap.size d cq:=Below.trans G (bD.mono G.size);refine hK.out _ _ x (fun _=>?_);clear hK K;try simp only[pS]
  refine rd1 5 (fun K hK=>?_);go_simp;go_at_call 12;refine(aZ.out _ x).mono ?_;rintro e cr ⟨rfl,bE⟩;have H:Below d.heap.size d cr:=Below.trans x (bE.mono x.size);refine hK.out _ _ H (fun _=>?_);clear hK K;try simp only[pS]
  refine tk [6,7,8,9,10,11,12,13,14,15,16,17,18,20] ?_;repeat ((refine tkt (v:=?_) ?_ ?_;rotate_left;·intro w' B;obtain⟨⟨s0,s1⟩,s2,s3,s4⟩:=Q.out w' B;go_simp<;>with_reducible rfl);try simp only[pS])
  refine tkn ?_;refine rd1 19 (fun K hK=>?_);go_simp;go_at_call 14;refine(aW.out _).mono ?_;rintro e ct ⟨sv,A,rfl,bA,b7,bF⟩;have I:Below d.heap.size d ct:=Below.trans H (bF.mono H.size);obtain⟨ya,yc,rfl, -,ca⟩:=b8.ah b7;have a8:=bP bA;clear bA;refine hK.out _ _ I (fun _=>?_);clear hK K;try simp only[pS]
  refine rd1 21 (fun K hK=>?_);go_simp;go_at_call 15;refine(aX.out _).mono ?_;rintro e cu ⟨rv,P,rfl,bB,cc,L⟩;have J:Below d.heap.size d cu:=Below.trans I (L.mono I.size);obtain⟨za,zc,rfl, -,cd⟩:=b8.ah cc;have bI:=(ca.below L bW).more L.size;have bR:=bP (show A=P from(List.map_inj_right (fun _ _ e=>cY e)).1 (a8.out.trans bB.symm));clear bB;have aC:A.length<=maxLen:=by
   have h9:=nj (bl text);rw[<-a8.out,length_map,b9]at h9;unfold maxLen;omega
  refine hK.out _ _ J (fun _=>?_);clear hK K;try simp only[pS]
  refine rd1 22 (fun K hK=>?_);go_simp;go_at_call 13;refine(HT.out _ A P ya za yc zc bR.out aC bI cd).mono ?_;rintro e cv ⟨rfl,bG⟩;have ao:Below d.heap.size d cv:=Below.trans J (bG.mono J.size);refine hK.out _ _ ao (fun _=>?_);clear hK K;try simp only[pS]
  refine tk [23,24] ?_;repeat ((refine tkt (v:=?_) ?_ ?_;rotate_left;·intro w' B;obtain⟨⟨s0,s1⟩,s2,s3,s4⟩:=Q.out w' B;go_simp<;>with_reducible rfl);try simp only[pS])
  refine tkn ?_;refine wpAnyH_done (by kernel_rfl) ?_ _;go_wp2_with fail;go_meet;exact⟨rfl,ao⟩
 case rest=>
  obtain⟨rfl,p⟩:=hcut;have ag:=bP (f.out.trans (p.mono f.out.size));have H7:=bS H6.out.1 ((H6.out.2.1.below p bW).more p.size) ((H6.out.2.2.below p bW).more p.size);clear p H6 Q aY aZ aW aX HT;obtain⟨-, -, -,⟨n, -⟩, -⟩:=k.out wc ag.out;obtain⟨pb,aw⟩:∃q:Bool,decide (dS l)=q:=⟨_,rfl⟩;have aj:=nM l E lc hl M wc n;rw[aw]at aj;have aR:=bP aj;have bO:=bP aw;clear n aj aw;go_wp2_with fail;refine aR.out.mono ?_;rintro e w8 ⟨rfl,r⟩;have ai:=bP (ag.out.trans (r.mono ag.out.size));have H8:=bS H7.out.1 ((H7.out.2.1.below r bW).more r.size) ((H7.out.2.2.below r bW).more r.size);obtain⟨-, -, -,⟨n, -⟩, -⟩:=k.out w8 ai.out;have ak:=qy l E lc (by omega) (fun s hs=>by have:=ad.out.1 s hs;omega) w8 n;rw[bO.out]at ak;have aS:=bP ak;clear n ak r H7 aR;go_wp2_with fail;refine aS.out.mono ?_;rintro e w9 ⟨rfl,q9,bw⟩;have t:Below w8.heap.size w8 w9:=by rw[bw];exact Go.below_drewN bX q9
  have al:=vE L1 L2 a1 a2 c1 c2 (by unfold maxLen;omega) (by unfold maxLen;omega) w9 ((H8.out.2.1.below t bW).more t.size) ((H8.out.2.2.below t bW).more t.size);rw[decide_eq_true H8.out.1]at al;have bL:=bP al;have bN:=bP (ai.out.trans (t.mono ai.out.size));clear bw t al aS H8;go_wp2_with fail;refine bL.out.mono ?_;rintro e ck ⟨rfl,cf,aA⟩;have bC:=bP (show Below w.heap.size w ck from by rw[aA];exact Go.below_drewN (k.out w9 bN.out).2.2.2.2 cf);clear aA;go_wp2_with fail;go_ret;exact⟨rfl,bC.out⟩
end
end Go.Proofs.YtmhdgddjeadjjaaGreatDoor
