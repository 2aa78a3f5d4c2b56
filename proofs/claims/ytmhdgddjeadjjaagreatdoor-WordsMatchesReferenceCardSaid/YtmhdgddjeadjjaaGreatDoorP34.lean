/- A part of the proof: what the claim reaches. -/
import Derived.Test.YtmhdgddjeadjjaaGreatDoorP24
import Derived.Test.YtmhdgddjeadjjaaGreatDoorP26
import Derived.Test.YtmhdgddjeadjjaaGreatDoorP29
namespace Go.Proofs.YtmhdgddjeadjjaaGreatDoor
open _root_.List Go.Lib _root_.Nat Go.World _root_.Int Go.Proofs.Tryz
section
open Go Classical
section
variable {b : cC} {lang : ByteArray} {i : Int} {t : List UInt8}
theorem dB.parts (h:dB b lang i t){A:cr}(c:b.ae[i.toNat]?=some A):(∀p∈partsOf t,p≠[]/\32∉p)/\cA t=partsOf t/\1<=(cA t).length/\(cA t).length<=6:=by
 have d:=h.be.scr.aI A (mem_of_getElem? c);have h1:∀p∈partsOf t,p≠[]/\32∉p:=fun p hp=>(oM d (h.word A c p hp)).symm;have a:cA t=partsOf t:=by
  rw[oO,filter_eq_self];intro p hp;simpa using(h1 p hp).1
 refine⟨h1,a,?_,by rw[a];exact h.few⟩;rw[a];exact length_pos_iff.2 (sK t [])
theorem dB.has (h:dB b lang i t):∃A,b.ae[i.toNat]?=some A:=by
 have:=h.script;exact⟨_,getElem?_eq_getElem (by omega)⟩
theorem zu {w:List UInt8}{s:ByteArray}(a:gp b i w s 0):∃B,b.ae[0]?=some B/\(cB B.bls (bl s)).err=0:=by
 obtain⟨M,k,o,a⟩:=a;rcases a with ⟨c,_,e⟩ |⟨c,A,B,n,j,f,l,p,a⟩
 .exact absurd e.symm c
 refine⟨B,by simpa using j,?_⟩;rcases a with ⟨_,_,e⟩ |⟨_,ts,m,q,a⟩
 .cases e
 rcases a with ⟨g,_,e⟩ |⟨_,a⟩
 .exact absurd e.symm g
 rcases a with ⟨_,_,e⟩ |⟨a,_⟩ |⟨_,_,e⟩
 .cases e
 .have:s∈ts.filter (fun t=>decide (fq B t)):=by rw[a];exact mem_singleton.2 rfl
  have d:fq B s:=of_decide_eq_true (mem_filter.1 this).2;exact d
 .cases e
end
end
section
open Go.RowKit Go.Shelf Go.Lib Go.Sort Classical
theorem CO (blk off size:Nat)(w:World):CmpLays prog 153 #[] Arc.cells 4 lx blk off size w:=fun m os c _ x y=>by
 refine(C6 x y _).mono ?_;rintro e w' ⟨rfl,a,b,d,rfl⟩;refine⟨rfl,1,#[a,b,d],?_⟩;generalize sortWorldK Arc.cells 4 w blk off m c os=W;rw[show(W.alloc a).alloc b=grow W #[a,b]from by rw[alloc_eq_grow,alloc_eq_grow,grow_grow];rfl];rw[show(grow W #[a,b]).drewN 1=grow (W.drewN 1) #[a,b]from rfl,alloc_eq_grow,grow_grow];rfl
theorem yA:vG:=by
 intro l g c base w hle a;have h:=sW (fun x:Arc=>x) lx yK (fun x y e=>e) 153 (enters_of func153 (by kernel_rfl) rfl) CO l g c base w (by omega) (by rw[map_id'];exact a);refine h.mono ?_;rintro e w' ⟨he,S,h1,b,d,f,i⟩;rw[map_id']at d f;exact⟨he,S,h1,fun y=>b.mem_iff,fun j=>uZ d (b.nodup_iff.2 j),f,i⟩
theorem vw (R:dj)(A B:cr)(v a b:Value)(w:World)(h:dY w w.heap.size v R)(c:cH w w.heap.size a A)(d:cH w w.heap.size b B):
  Calls prog 91 #[v,a,b] w (mT (dr R A B) R A w):=xQ yA R A B v a b w h c d
end
section
open Go.RowKit Classical
theorem fS {w:World}{b:Nat}{t:TypeId}{B:Nat}{M:cu}{fa aa:Option Addr}{fc ac:Nat}(g:Blk w b #[.int .i64 0,.int .i64 0,.slice none 0 0,.slice none 0 0] t)
  (hm:dx w B (.agg #[.int .i64 M.ag,.int .i64 M.start,.slice fa M.final.length fc,.slice aa M.arcs.length ac]) M)(r:∀s∈M.final,s≠0){W:World}
  (p:W=(((w.setCell ⟨b,0,none⟩ (.int .i64 M.ag)).setCell ⟨b,1,none⟩ (.int .i64 M.start)).setCell ⟨b,2,none⟩ (.slice fa M.final.length fc)).setCell ⟨b,3,none⟩ (.slice aa M.arcs.length ac)):
  Blk W b #[.int .i64 M.ag,.int .i64 M.start,.slice fa M.final.length fc,.slice aa M.arcs.length ac] t/\dx W B (.agg #[.int .i64 M.ag,.int .i64 M.start,.slice fa M.final.length fc,.slice aa M.arcs.length ac]) M:=by
 subst p;refine⟨?_,?_⟩
 .have:=(((g.aj 0 (.int .i64 M.ag)).aj 1 (.int .i64 M.start)).aj 2 (.slice fa M.final.length fc)).aj 3 (.slice aa M.arcs.length ac);simpa using this
 .obtain⟨D,E,A,C,e,h1,n,l,m⟩:=hm;simp only[Value.agg.injEq,Array.mk.injEq,cons.injEq,and_true,Value.slice.injEq,true_and]at e;obtain⟨⟨rfl,rfl⟩,rfl,rfl⟩:=e;have k1:∀x o,fa=some ⟨x,o,none⟩->0<(nums M.final).length->x≠b:=by
   rintro x o e c rfl;obtain⟨z,v,e',_,d⟩:=l c;rw[e]at e';obtain⟨rfl,rfl⟩:x=z/\o=v:=by simpa using e'
   have f:0<M.final.length:=by simpa [nums]using c
   have c0:=d 0 (.int .i64 M.final[0]) (by simp[nums,f]);have a:=r _ (getElem_mem f);rw[Nat.add_zero,g.cell]at c0;have u:o<4:=by have:=(Array.getElem?_eq_some_iff.1 c0).1;simpa using this
   match o,u with
   |0,_=>simp at c0;exact a c0.symm
   |1,_=>simp at c0;exact a c0.symm
   |2,_=>simp at c0
   |3,_=>simp at c0
  have k2:∀x o,aa=some ⟨x,o,none⟩->0<(flat M.arcs).length->x≠b:=fun x o e c=>sP m g c _ e;refine⟨fa,fc,aa,ac,rfl,h1,n,?_,?_⟩
  .intro c;obtain⟨x,o,e,j,d⟩:=l c;refine⟨x,o,e,j,fun i y k=>?_⟩;have a:=k1 x o e c;rw[cell?_setCell_other _ _ _ _ (fun q=>a (by rw[Addr.mk.injEq]at q;exact q.1.symm)),cell?_setCell_other _ _ _ _ (fun q=>a (by rw[Addr.mk.injEq]at q;exact q.1.symm)),cell?_setCell_other _ _ _ _ (fun q=>a (by rw[Addr.mk.injEq]at q;exact q.1.symm)),cell?_setCell_other _ _ _ _ (fun q=>a (by rw[Addr.mk.injEq]at q;exact q.1.symm))];exact d i y k
  .intro c;obtain⟨x,o,e,j,d⟩:=m c;refine⟨x,o,e,j,fun i y k=>?_⟩;have a:=k2 x o e c;rw[cell?_setCell_other _ _ _ _ (fun q=>a (by rw[Addr.mk.injEq]at q;exact q.1.symm)),cell?_setCell_other _ _ _ _ (fun q=>a (by rw[Addr.mk.injEq]at q;exact q.1.symm)),cell?_setCell_other _ _ _ _ (fun q=>a (by rw[Addr.mk.injEq]at q;exact q.1.symm)),cell?_setCell_other _ _ _ _ (fun q=>a (by rw[Addr.mk.injEq]at q;exact q.1.symm))];exact d i y k
theorem Dt (w:World)(b:Nat)(u0 u1 u2 u3:Value)(g i:Nat)(a:g≠b):((((w.setCell ⟨b,0,none⟩ u0).setCell ⟨b,1,none⟩ u1).setCell ⟨b,2,none⟩ u2).setCell ⟨b,3,none⟩ u3).cell? ⟨g,i,none⟩=w.cell? ⟨g,i,none⟩:=by
 have k:∀(w:World) (o:Nat) (u:Value),(w.setCell ⟨b,o,none⟩ u).cell? ⟨g,i,none⟩=w.cell? ⟨g,i,none⟩:=fun w o u=>
  cell?_setCell_other w _ _ u (fun q=>a (by rw[Addr.mk.injEq]at q;exact q.1.symm))
 rw[k,k,k,k]
theorem fg.final {b:cC}{i j:Nat}{M:cu}(h:fg b i j M):∀s∈M.final,s≠0:=by
 obtain⟨A,_,h⟩:=h;rcases h with ⟨_,h⟩ |⟨_,r,_,h⟩<;>rw[h.final]<;>simp
theorem eK.more {w:World}{B B':Nat}{b:cC}{l:List dj}{es:List (Value×Value)}(h:eK w B b l es)(f:B<=B'):eK w B' b l es:=
 ⟨h.1,fun m r p g hp=>by
  obtain⟨i,j,A,a,h1,c,d,e⟩:=h.2 m r p g hp;exact⟨i,j,A,a,h1,c,d,e.more f⟩⟩
def AH (b:cC)(i j:Nat)(w:World)(e:Ending)(w':World):Prop:=
 ∃v M,e= .returned (.tuple #[v,.int .i64 0])/\dx w' w'.heap.size v M/\fg b i j M/\Below w.heap.size w w'
set_option maxRecDepth 100000
set_option maxHeartbeats 2000000
theorem Da (b:cC)(i j:Nat)(B C O:Nat)(a:Option Addr)(c:Nat)(es:List (Value×Value))(w:World)(Z:cU b)(aT:w.cell? ⟨B,0,none⟩=some (.slice a b.ae.length c))(aQ:B<w.heap.size)(hA:eS w w.heap.size a b.ae)
  (hw:w.cell? ⟨C,0,none⟩=some (.map (some O)))(aR:C<w.heap.size)(hM:ch w O oW es)(F:eK w w.heap.size b b.rules es)(hi:i<b.ae.length)(hj:j<b.ae.length)(D:i≠j->∃r,gu b i j r):
  Calls prog 89 #[.int .i64 i,.int .i64 j,.pointer (some ⟨B,0,none⟩),.pointer (some ⟨C,0,none⟩)] w (AH b i j w):=by
 obtain⟨A,y⟩:∃A,b.ae[i]?=some A:=⟨_,getElem?_eq_getElem hi⟩;obtain⟨s,R⟩:∃A,b.ae[j]?=some A:=⟨_,getElem?_eq_getElem hj⟩;obtain⟨l,t⟩:∃l:World,l=w.alloc (.cells #[.int .i64 0,.int .i64 0,.slice none 0 0,.slice none 0 0] 98):=⟨_,rfl⟩;have u:Below w.heap.size w l:=by rw[t];exact bX.alloc bW _
 have bw:l.heap.size=w.heap.size+1:=by rw[t];simp
 have hR:Blk l w.heap.size #[.int .i64 0,.int .i64 0,.slice none 0 0,.slice none 0 0] 98:=by rw[t];exact Blk.new _ _ _
 have b0:l.cell? ⟨B,0,none⟩=some (.slice a b.ae.length c):=(u.cell (p:=⟨B,0,none⟩) aQ).trans aT;have aw:l.cell? ⟨C,0,none⟩=some (.map (some O)):=(u.cell (p:=⟨C,0,none⟩) aR).trans hw;have Q:=hA.below u bW;obtain⟨g,o,la,lc,sa,sc,ea,hg,p0,p1,p2,S⟩:=Q.get y;obtain⟨g2,o2,U,V,X,Y,aP,bu,q0,q1,q2,I⟩:=Q.get R;subst ea;obtain⟨rfl,rfl⟩:g=g2/\o=o2:=by simpa using aP
 by_cases z:i=j
 .have d1:((i:Int)==(j:Int))=true:=by rw[z];simp
  have hC:=bP (Cv A _ l (S.more (by omega)));have P:=bS z y Z;clear z Z S I hA Q hM F D y R;go_enter func89,ntmps89;go_upto_region 1 with (fail);rw[<-t];clear t;go_wp2_with fail;refine hC.out.mono ?_;rintro e x ⟨v1,M,err,rfl,H,T,aV⟩;have E:=P.out.2.2.scr.aI A (mem_of_getElem? P.out.2.1);rcases aV with ⟨n,_⟩ |⟨_,rfl,aB⟩
  .exact absurd E n
  have G:=H;obtain⟨fa,fc,aa,ac,rfl, -, -, -, -⟩:=H;have q:fg b i j M:=⟨A,P.out.2.1,.inl ⟨P.out.1,aB⟩⟩;have d:=hR.below T (by omega);have HI:=bP (fun W hW=>fS d G q.final (W:=W) hW);have ab:=bP q;have r0:x.cell? ⟨w.heap.size,0,none⟩=some (.int .i64 0):=d.cell 0;have r1:x.cell? ⟨w.heap.size,1,none⟩=some (.int .i64 0):=d.cell 1;have r2:x.cell? ⟨w.heap.size,2,none⟩=some (.slice none 0 0):=d.cell 2;have r3:x.cell? ⟨w.heap.size,3,none⟩=some (.slice none 0 0):=d.cell 3;have f0:=d.frozen 0;have f1:=d.frozen 1;have f2:=d.frozen 2;have f3:=d.frozen 3;have ad:=u.trans (T.mono (by omega));clear d G aB q;go_wp2_with fail;obtain⟨hk,hm⟩:=HI.out _ rfl;have m0:=hk.cell 0;have m1:=hk.cell 1;have m2:=hk.cell 2;have m3:=hk.cell 3;simp only[getElem?_toArray,getElem?_cons_zero,getElem?_cons_succ]at m0 m1 m2 m3;refine bodyPost_ret (v:= .tuple #[.agg #[.int .i64 M.ag,.int .i64 M.start,.slice fa M.final.length fc,.slice aa M.arcs.length ac],.int .i64 0]) (by simp[results,results89,go_sem,m0,m1,m2,m3]) rfl ?_;exact⟨_,M,rfl,hm.more (by simp),ab.out,(((ad.setCell (p:=⟨w.heap.size,0,none⟩) bW _).setCell (p:=⟨w.heap.size,1,none⟩) bW _).setCell (p:=⟨w.heap.size,2,none⟩) bW _).setCell (p:=⟨w.heap.size,3,none⟩) bW _⟩
 .have d1:((i:Int)==(j:Int))=false:=by rw[beq_eq_false_iff_ne];omega
  obtain⟨r,hr⟩:=D z;obtain⟨B1,B2,ax,ay⟩:∃B1 B2,b.no r.src i B1/\b.no r.dst j B2:=hr.2;obtain⟨m,hm⟩:=getElem?_of_mem hr.1;have ah:m<es.length:=by have:=F.1;have:=(List.getElem?_eq_some_iff.1 hm).1;omega
  obtain⟨i',j',B3,B4,k1,k2,k3,aE⟩:=F.2 m r _ hm (getElem?_eq_getElem ah);obtain⟨rfl,_⟩:=cC.aq Z.scr.names ax k1;obtain⟨rfl,_⟩:=cC.aq Z.scr.names ay k2;have L:(ttV ((i:Int),(j:Int)),es[m].2)∈es:=by rw[<-k3];exact getElem_mem ah
  have N:=(aE.below u bW).more (show w.heap.size<=l.heap.size by omega);obtain⟨pv,aD⟩:∃pv,es[m].2=pv:=⟨_,rfl⟩;rw[aD]at L N;have az:=N;obtain⟨ra,rc,rfl, -, -, -, -, -⟩:=N;have af:=ch.ar (hM.below u hM.lt).drew vo underlying131 L false;rw[if_neg (by simp)]at af;unfold ttV at af;obtain⟨aX,E⟩:=Z.aL hr y R;have hd:=(Below.refl l.heap.size l).drew;have hC:=bP (vw r A s _ _ _ l.drew (az.below hd bW) ((S.more (B':=l.heap.size) (by omega)).below hd bW) ((I.more (B':=l.heap.size) (by omega)).below hd bW));have Hr:=bT z y hr E;clear z Z S I hA Q hM F D y R az L aD aE ax ay hm ah k1 k2 k3 hr E aX hd;go_enter func89,ntmps89;go_upto_region 1 with (fail);rw[<-t];clear t;go_wp2_with fail;have HS:=bP (fun(f:World) (aU:Below l.heap.size l f)=>(show(f.cell? ⟨B,0,none⟩=some (.slice (some ⟨g,o,none⟩) b.ae.length c)/\f.cell? ⟨C,0,none⟩=some (.map (some O))/\
    f.cell? ⟨g,o+i*3,none⟩=some (.string A.name)/\f.cell? ⟨g,o+i*3+1,none⟩=some (.slice la A.letters.length lc)/\f.cell? ⟨g,o+i*3+2,none⟩=some (.slice sa A.small.length sc)/\
    f.cell? ⟨g,o+j*3,none⟩=some (.string s.name)/\f.cell? ⟨g,o+j*3+1,none⟩=some (.slice U s.letters.length V)/\f.cell? ⟨g,o+j*3+2,none⟩=some (.slice X s.small.length Y))from by
   have k:∀(g i:Nat),g<l.heap.size->f.cell? ⟨g,i,none⟩=l.cell? ⟨g,i,none⟩:=fun g i hg=>aU.cell (p:=⟨g,i,none⟩) hg;exact⟨(k _ _ (by omega)).trans b0,(k _ _ (by omega)).trans aw,(k _ _ (by omega)).trans p0,(k _ _ (by omega)).trans p1,(k _ _ (by omega)).trans p2,(k _ _ (by omega)).trans q0,(k _ _ (by omega)).trans q1,(k _ _ (by omega)).trans q2⟩))
  have HT:=bP (fun(f:World) (h9:(f.cell? ⟨B,0,none⟩=some (.slice (some ⟨g,o,none⟩) b.ae.length c)/\f.cell? ⟨C,0,none⟩=some (.map (some O))/\
    f.cell? ⟨g,o+i*3,none⟩=some (.string A.name)/\f.cell? ⟨g,o+i*3+1,none⟩=some (.slice la A.letters.length lc)/\f.cell? ⟨g,o+i*3+2,none⟩=some (.slice sa A.small.length sc)/\
    f.cell? ⟨g,o+j*3,none⟩=some (.string s.name)/\f.cell? ⟨g,o+j*3+1,none⟩=some (.slice U s.letters.length V)/\f.cell? ⟨g,o+j*3+2,none⟩=some (.slice X s.small.length Y))) (u0 u1 u2 u3:Value)=>(show(((((f.setCell ⟨w.heap.size,0,none⟩ u0).setCell ⟨w.heap.size,1,none⟩ u1).setCell ⟨w.heap.size,2,none⟩ u2).setCell ⟨w.heap.size,3,none⟩ u3).cell? ⟨B,0,none⟩=some (.slice (some ⟨g,o,none⟩) b.ae.length c)/\((((f.setCell ⟨w.heap.size,0,none⟩ u0).setCell ⟨w.heap.size,1,none⟩ u1).setCell ⟨w.heap.size,2,none⟩ u2).setCell ⟨w.heap.size,3,none⟩ u3).cell? ⟨C,0,none⟩=some (.map (some O))/\
    ((((f.setCell ⟨w.heap.size,0,none⟩ u0).setCell ⟨w.heap.size,1,none⟩ u1).setCell ⟨w.heap.size,2,none⟩ u2).setCell ⟨w.heap.size,3,none⟩ u3).cell? ⟨g,o+i*3,none⟩=some (.string A.name)/\((((f.setCell ⟨w.heap.size,0,none⟩ u0).setCell ⟨w.heap.size,1,none⟩ u1).setCell ⟨w.heap.size,2,none⟩ u2).setCell ⟨w.heap.size,3,none⟩ u3).cell? ⟨g,o+i*3+1,none⟩=some (.slice la A.letters.length lc)/\((((f.setCell ⟨w.heap.size,0,none⟩ u0).setCell ⟨w.heap.size,1,none⟩ u1).setCell ⟨w.heap.size,2,none⟩ u2).setCell ⟨w.heap.size,3,none⟩ u3).cell? ⟨g,o+i*3+2,none⟩=some (.slice sa A.small.length sc)/\
    ((((f.setCell ⟨w.heap.size,0,none⟩ u0).setCell ⟨w.heap.size,1,none⟩ u1).setCell ⟨w.heap.size,2,none⟩ u2).setCell ⟨w.heap.size,3,none⟩ u3).cell? ⟨g,o+j*3,none⟩=some (.string s.name)/\((((f.setCell ⟨w.heap.size,0,none⟩ u0).setCell ⟨w.heap.size,1,none⟩ u1).setCell ⟨w.heap.size,2,none⟩ u2).setCell ⟨w.heap.size,3,none⟩ u3).cell? ⟨g,o+j*3+1,none⟩=some (.slice U s.letters.length V)/\((((f.setCell ⟨w.heap.size,0,none⟩ u0).setCell ⟨w.heap.size,1,none⟩ u1).setCell ⟨w.heap.size,2,none⟩ u2).setCell ⟨w.heap.size,3,none⟩ u3).cell? ⟨g,o+j*3+2,none⟩=some (.slice X s.small.length Y))from by
   have k:=Dt f w.heap.size u0 u1 u2 u3;obtain⟨y0,y1,y2,y3,y4,y5,y6,y7⟩:=h9;exact⟨(k _ _ (by omega)).trans y0,(k _ _ (by omega)).trans y1,(k _ _ (by omega)).trans y2,(k _ _ (by omega)).trans y3,(k _ _ (by omega)).trans y4,(k _ _ (by omega)).trans y5,(k _ _ (by omega)).trans y6,(k _ _ (by omega)).trans y7⟩))
  go_region_held3 (fun w'=>w'.cell? ⟨B,0,none⟩=some (.slice (some ⟨g,o,none⟩) b.ae.length c)/\w'.cell? ⟨C,0,none⟩=some (.map (some O))/\
    w'.cell? ⟨g,o+i*3,none⟩=some (.string A.name)/\w'.cell? ⟨g,o+i*3+1,none⟩=some (.slice la A.letters.length lc)/\w'.cell? ⟨g,o+i*3+2,none⟩=some (.slice sa A.small.length sc)/\
    w'.cell? ⟨g,o+j*3,none⟩=some (.string s.name)/\w'.cell? ⟨g,o+j*3+1,none⟩=some (.slice U s.letters.length V)/\w'.cell? ⟨g,o+j*3+2,none⟩=some (.slice X s.small.length Y))
   (first |exact⟨b0,aw,p0,p1,p2,q0,q1,q2⟩ |exact aF |exact HT.out _ aF _ _ _ _ |go_keep)
   (first |(go_at_call 91;refine hC.out.mono ?_;rintro e x ⟨v1,M,err,rfl,H,T, -,aC⟩;have J:=(Below.refl l.heap.size l).drew.trans (T.mono bW);have aF:=HS.out x J;have G:=H;obtain⟨fa,fc,aa,ac,rfl, -, -, -, -⟩:=H;have d:=hR.below J (by omega);have r0:x.cell? ⟨w.heap.size,0,none⟩=some (.int .i64 0):=d.cell 0;have r1:x.cell? ⟨w.heap.size,1,none⟩=some (.int .i64 0):=d.cell 1;have r2:x.cell? ⟨w.heap.size,2,none⟩=some (.slice none 0 0):=d.cell 2;have r3:x.cell? ⟨w.heap.size,3,none⟩=some (.slice none 0 0):=d.cell 3;have f0:=d.frozen 0;have f1:=d.frozen 1;have f2:=d.frozen 2;have f3:=d.frozen 3;have aN:=bP d;clear d) |fail)
  obtain⟨rfl,aA⟩:=aC Hr.out.2.2.2;have q:fg b i j M:=⟨A,Hr.out.2.1,.inr ⟨Hr.out.1,r,Hr.out.2.2.1,aA⟩⟩;have HI:=bP (fun W hW=>fS aN.out G q.final (W:=W) hW);have ab:=bP q;have ad:=u.trans (J.mono (by omega));clear G aA q aC;go_wp2_with fail;obtain⟨hk,hm⟩:=HI.out _ rfl;have m0:=hk.cell 0;have m1:=hk.cell 1;have m2:=hk.cell 2;have m3:=hk.cell 3;simp only[getElem?_toArray,getElem?_cons_zero,getElem?_cons_succ]at m0 m1 m2 m3;refine bodyPost_ret (v:= .tuple #[.agg #[.int .i64 M.ag,.int .i64 M.start,.slice fa M.final.length fc,.slice aa M.arcs.length ac],.int .i64 0]) (by simp[results,results89,go_sem,m0,m1,m2,m3]) rfl ?_;exact⟨_,M,rfl,hm.more (by simp),ab.out,(((ad.setCell (p:=⟨w.heap.size,0,none⟩) bW _).setCell (p:=⟨w.heap.size,1,none⟩) bW _).setCell (p:=⟨w.heap.size,2,none⟩) bW _).setCell (p:=⟨w.heap.size,3,none⟩) bW _⟩
end
end Go.Proofs.YtmhdgddjeadjjaaGreatDoor
