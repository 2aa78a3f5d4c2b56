/- A part of the proof: what the claim reaches. -/
import Derived.Test.YtmhdgddjeadjjaaGreatDoorP24
import Derived.Test.YtmhdgddjeadjjaaGreatDoorP26
namespace Go.Proofs.YtmhdgddjeadjjaaGreatDoor
open _root_.List Go.Lib _root_.Nat Go.World _root_.Int Go.Proofs.Tryz
variable {a:Act}{s:ByteArray}{Q:Exit → Act → World → Prop}{B j k p:Nat}{o:Oper}{w w':World}
section
open Go.RowKit Go.Shelf Classical
attribute [local go_sem] Oper.semAt_some
def gW (l:List Sht)(W:List ByteArray)(w:World)(e:Ending)(w':World):Prop:=
 ∃(a:Value) (L:List Spl) (err:Int),e= .returned (.tuple #[a,.int .i64 err])/\dq l W (L.map Spl.key) err/\w'.ownsRow w.heap.size 48 2 a L.length (L.flatMap Spl.cells)/\
  (∀x∈L,x.ws.length<=maxLen/\w'.ownsRow w.heap.size 9 1 (.slice x.at_ x.ws.length x.cap) x.ws.length (strs x.ws))/\Below w.heap.size w w'
theorem sX {l:List Sht}{W:List ByteArray}{err:Int}{n:Nat}{tmps:Array Value}(a:dq l W [] err)(t1:tmps[4]?.getD undef= .slice none 0 0)(t2:tmps[5]?.getD undef= .int .i64 err)(b:Below w.heap.size w w'):
  bodyPostM Fence.wide n prog f9 (gW l W w) .ret { tmps:=tmps,defers:=[] } w':=by
 refine lu (v:= .tuple #[.slice none 0 0,.int .i64 err]) ?_ rfl ?_
 .simp[results,results9,go_sem,t1,t2]
 .exact⟨_,[],err,rfl,a,ownsRow_nil _ _ _ _,by simp,b⟩
theorem yZ {l:List Sht}{W:List ByteArray}{b:Value}{L:List Spl}{err:Int}{n D:Nat}{tmps:Array Value}(m:dq l W (L.map Spl.key) err)(t1:tmps[4]?.getD undef=b)(t2:tmps[5]?.getD undef= .int .i64 err)(j:w.heap.size<=D)(a:w'.heap[D]?=some (.deferred (some [])))
  (h1:w'.ownsRow w.heap.size 48 2 b L.length (L.flatMap Spl.cells))(c:∀x∈L,x.ws.length<=maxLen/\w'.ownsRow w.heap.size 9 1 (.slice x.at_ x.ws.length x.cap) x.ws.length (strs x.ws))(i:Below w.heap.size w w'):
  bodyPostM Fence.wide n prog f9 (gW l W w) .ret { tmps:=tmps,defers:=[{ target:= .collected D,args:= #[] }] } w':=by
 have d:=grownBy_putObj' w' D (.deferred none);have ne:∀{base:Nat} {e:TypeId} {size n:Nat} {v:Value} {xs:List Value},w'.ownsRow base e size v n xs->v.ownBlock=none\/v.ownBlock≠some D:=fun h=> .inr (fun e=>by
  rcases h.2 with ⟨rfl, -⟩ |⟨g,cap,cur,rfl, -,o, -⟩
  .cases e
  .have:g=D:=by simpa [Value.ownBlock]using e
   subst this;rw[o]at a;cases a)
 refine jc (v:= .tuple #[b,.int .i64 err]) a ?_ rfl ?_
 .simp[results,results9,go_sem,t1,t2]
 .exact⟨b,L,err,rfl,m,h1.kept d (ne h1),fun x f=>⟨(c x f).1,(c x f).2.kept d (ne (c x f).2)⟩,i.grown d i.size (fun k e=>by cases e;exact j)⟩
set_option maxRecDepth 100000
set_option maxHeartbeats 4000000
theorem tP (l:List Sht)(W:List ByteArray)(la wa:Option Addr)(lc wc:Nat)(hl:l.length<=maxLen)(eg:∀s∈l,s.fits)(hW:W.length<=maxLen)(w:World)(dG:c8 w w.heap.size 4 la (l.map Sht.cells))(dN:b8 w w.heap.size wa (strs W)):
  Calls prog 9 #[.slice la l.length lc,.slice wa W.length wc] w (gW l W w):=by
 obtain⟨i0,hi,dQ,dT,dU⟩:=info_parts fP;have dJ:= @run_makeMap prog;have er:=bP dJ;refine(callsIn_wide (n:=5)).1 ?_;refine callsIn_of_wp_marks func9 rfl trivial ?_ rfl;simp only[ntmps9,size_toArray,length_cons,length_nil,Nat.reduceAdd,Nat.reduceSub,Array.replicate_succ,Array.replicate_zero,push_toArray,append_toArray,nil_append,cons_append];refine wpIn_wide.2 ?_;go_upto_region 2 with (fail);obtain⟨V,bf⟩:∃V:World,V=w.alloc (.cells #[.slice wa W.length wc] 29):=⟨_,rfl⟩;rw[<-bf];have du:Below w.heap.size w V:=by rw[bf];exact bX.alloc bW _
 have k0:Blk V w.heap.size #[.slice wa W.length wc] 29:=by rw[bf];exact Blk.new _ _ _
 have fC:V.heap.size=w.heap.size+1:=by rw[bf];simp
 have HK:=bP (fun(wr:World) (b0:Below V.heap.size V wr)=>(show wr.cell? ⟨w.heap.size,0,none⟩=some (.slice wa W.length wc)/\c8 wr wr.heap.size 4 la (l.map Sht.cells)/\b8 wr wr.heap.size wa (strs W)/\Below w.heap.size w wr from
  have G:=du.trans (b0.mono (by omega))
  ⟨(k0.below b0 (by omega)).cell 0,(dG.below G bW).more G.size,(dN.below G bW).more G.size,G⟩))
 clear bf k0 dG dN du;obtain⟨x0,dF,eZ, -⟩:=HK.out V bX;have HP:=bP (nM l la lc hl eg V dF);have HC:=bP (fun(wr:World) (b0:Below V.heap.size V wr)=>qC ns W wa wc 27 #[] wr hW (HK.out wr b0).2.2.1 (by intro args w;kernel_rfl) (fun w' t _ _=>El t w'));unfold maxLen at hl hW;clear dF eZ x0;by_cases hP:dS l;case neg=>
  have hd:=decide_eq_false hP;have Hd:=bP hd;have aD:=bP (show dq l W [] 1 from .inl ⟨fun h=>hP h.1,rfl,rfl⟩);clear hP hd;go_wp2_with (refine HP.out.mono ?_;rintro e w1 ⟨rfl,z⟩;rw[Hd.out]);exact sX aD.out rfl rfl (HK.out w1 z).2.2.2
 have dy:=decide_eq_true hP;have a8:=bP dy;have Hp:=bP hP;clear hP dy;by_cases h1:W.length<1
 .have aD:=bP (show dq l W [] 1 from .inl ⟨fun h=>by have:=h.2.1;omega,rfl,rfl⟩);go_wp2_with (refine HP.out.mono ?_;rintro e w1 ⟨rfl,z⟩;rw[a8.out];have x0:=(HK.out w1 z).1);exact sX aD.out rfl rfl (HK.out w1 z).2.2.2
 by_cases h2:12<W.length
 .have aD:=bP (show dq l W [] 1 from .inl ⟨fun h=>by have:=h.2.2.1;omega,rfl,rfl⟩);go_wp2_with (refine HP.out.mono ?_;rintro e w1 ⟨rfl,z⟩;rw[a8.out];have x0:=(HK.out w1 z).1);exact sX aD.out rfl rfl (HK.out w1 z).2.2.2
 by_cases h3:∃t∈W,ns t
 .have bp:=decide_eq_true h3;have bO:=bP bp;have aD:=bP (show dq l W [] 1 from .inl ⟨fun h=>by obtain⟨t,ht,hn⟩:=h3;exact hn (h.2.2.2 t ht),rfl,rfl⟩);clear h3 bp;go_wp2_with (first |(go_at_call 16;refine HP.out.mono ?_;rintro e w1 ⟨rfl,z⟩;rw[a8.out];have x0:=(HK.out w1 z).1) |(go_at_call 29;refine(HC.out w1 z).mono ?_;rintro e w2 ⟨rfl,bZ⟩;rw[bO.out]));exact sX aD.out rfl rfl (HK.out w2 (z.trans (bZ.mono z.size))).2.2.2
 have bp:=decide_eq_false h3;have bO:=bP bp;have aP:=bP (show Plain W from⟨by omega,by omega,fun t ht=>Classical.not_not.1 fun hn=>h3 ⟨t,ht,hn⟩⟩);clear h3 bp;go_upto_region 4 with (first |(go_at_call 16;refine HP.out.mono ?_;rintro e w1 ⟨rfl,z⟩;rw[a8.out];have x0:=(HK.out w1 z).1) |(go_at_call 29;refine(HC.out w1 z).mono ?_;rintro e w2 ⟨rfl,bZ⟩;rw[bO.out]));have bD:=z.trans (bZ.mono z.size);clear bZ z x0 HP HC a8 bO;go_upto_region 5 with (fail);obtain⟨O,aR⟩:∃O:World,O=(w2.alloc (.map #[] 0)).alloc (.cells #[.map (some w2.heap.size)] 61):=⟨_,rfl⟩;rw[<-aR];have cz:Below w2.heap.size w2 O:=by rw[aR];exact(bX.alloc bW _).alloc (by simp) _
 have eV:O.heap.size=w2.heap.size+2:=by rw[aR];simp
 have ct:ch O w2.heap.size gK (ew []):=by rw[aR];exact(ch.made w2 gK).alloc _
 have cE:Blk O (w2.heap.size+1) #[.map (some w2.heap.size)] 61:=by rw[aR];have:=Blk.new (w2.alloc (.map #[] 0)) #[.map (some w2.heap.size)] 61;simpa using this
 obtain⟨m,hm⟩:∃m,w2.heap.size=m:=⟨_,rfl⟩;rw[hm]at cz eV ct cE⊢;have dI:V.heap.size<=m:=by rw[<-hm];exact bD.size
 have cy:Below V.heap.size V O:=bD.trans (cz.mono dI);have U:=bP (fun(wr:World) (M:Chg (·=m) O wr)=>(show(wr.cell? ⟨w.heap.size,0,none⟩=some (.slice wa W.length wc)/\c8 wr wr.heap.size 4 la (l.map Sht.cells)/\b8 wr wr.heap.size wa (strs W)/\Below w.heap.size w wr)/\Blk wr (m+1) #[.map (some m)] 61 from
  ⟨HK.out wr (cy.trans ((M.below (B:=m) (fun k hk=>by cases hk;exact bW) (by omega)).mono dI)),cE.chg M (by omega)⟩))
 have eo:=bP ct;have fB:w.heap.size<m:=by omega
 clear aR cz ct cE cy bD hm HK;obtain⟨⟨x0, -, -, -⟩, -⟩:=U.out O (Chg.refl _ _);go_wp2_with fail;clear x0;go_loopw [43] (fun i wr=>∃(k:Nat) (es:List ((ByteArray×ByteArray)×Int)),k<=W.length/\i= .int .i64 k/\dZ (CIn (W.take k) []) es/\ch wr m gK (ew es)/\es.length<=k/\Chg (·=m) O wr) (fun i _=>W.length-(intOf i).toNat);case atStart=>exact⟨0,[],zero_le _,rfl,dZ.start.congr (fun k c=>by simp[CIn]),eo.out,bW,Chg.refl _ _⟩
 case round=>
  obtain⟨k,es,hk,rfl,hC,hM,dz,ar⟩:=hrel;have E:=bS hC hM ar;clear hC hM ar;by_cases aw:k<W.length
  .obtain⟨⟨-, -,dP, -⟩,ao⟩:=U.out wr E.out.2.2;obtain⟨g,o,rfl,hg,M⟩:=dP.strs (by omega);have x0:=M k aw;obtain⟨x,hx⟩:∃x,W[k]=x:=⟨_,rfl⟩;rw[hx]at x0;have x1:wr.cell? ⟨m+1,0,none⟩=some (.map (some m)):=ao.cell 0;obtain⟨w6,P,cK,aQ,di,dB,eX,fz⟩:=rr E.out.1 E.out.2.1 x x 0 (fun d hd=>by
    rcases ((E.out.1.mem _ _).1 hd).1 with ⟨_,_,h⟩ |⟨s,hs,_⟩
    .omega
    .cases hs)
   have bz:W.take (k+1)=W.take k++[x]:=by rw[take_add_one,getElem?_eq_getElem aw,hx];rfl
   have HN:=bP (show dZ (CIn (W.take (k+1)) []) P/\ch w6 m gK (ew P)/\Chg (·=m) O w6 from⟨by rw[bz];exact di.congr (fun k c=>CL _ _ _ _),aQ,E.out.2.2.au dB (fun r e=>by cases e;rfl)⟩);clear dP M hx aQ di dB eX bz ao;go_wp2_with fail;exact⟨⟨k+1,P,by omega,by go_num,HN.out.1,HN.out.2.1,by omega,HN.out.2.2⟩,by simp[intOf];omega⟩
  .obtain rfl:k=W.length:=by omega
   have dh:dZ (CIn W (l.take 0)) es:=by have:=E.out.1;rw[take_length]at this;exact this
   have dc:=bP dh;clear dh;go_wp2_with fail;obtain⟨wo,rfl⟩:∃wo:World,wo=wr:=⟨_,rfl⟩;go_loopw [54] (fun i wr=>∃(k:Nat) (es:List ((ByteArray×ByteArray)×Int)),k<=l.length/\i= .int .i64 k/\dZ (CIn W (l.take k)) es/\ch wr m gK (ew es)/\es.length<=W.length+k/\Chg (·=m) O wr) (fun i _=>l.length-(intOf i).toNat);case atStart=>exact⟨0,es,zero_le _,rfl,dc.out,E.out.2.1,by omega,E.out.2.2⟩
   case round=>
    clear E dc dz;obtain⟨k,es,hk,rfl,hC,hM,dz,ar⟩:=hrel;have E:=bS hC hM ar;clear hC hM ar;by_cases aw:k<l.length
    .obtain⟨⟨-,dH, -, -⟩,ao⟩:=U.out wr E.out.2.2;obtain⟨g,o,rfl,hg,M⟩:=dH.a7 (by omega);obtain⟨c0,c1,c2,c3⟩:=M k aw;obtain⟨s,hs⟩:∃s,l[k]=s:=⟨_,rfl⟩;rw[hs]at c0 c1 c2 c3;have bz:l.take (k+1)=l.take k++[s]:=by rw[take_add_one,getElem?_eq_getElem aw,hs];rfl
     have cq:=bP bz;have db:=bP ao;clear dH M hs bz ao;go_upto_region 13 with (fail);obtain⟨W5,bg⟩:∃W5:World,W5=wr.alloc (.cells #[.string s.lang,.string s.short,.string s.full,.int .i64 s.cost] 51):=⟨_,rfl⟩;rw[<-bg];have dv:Below wr.heap.size wr W5:=by rw[bg];exact bX.alloc bW _
     have eW:W5.heap.size=wr.heap.size+1:=by rw[bg];simp
     have b5:Blk W5 wr.heap.size #[.string s.lang,.string s.short,.string s.full,.int .i64 s.cost] 51:=by rw[bg];exact Blk.new _ _ _
     clear bg c0 c1 c2 c3;have d1:W5.cell? ⟨wr.heap.size,1,none⟩=some (.string s.short):=b5.cell 1;have d2:W5.cell? ⟨wr.heap.size,2,none⟩=some (.string s.full):=b5.cell 2;have cn:=bQ b5 dv;clear b5 dv;go_upto_region 14 with (fail);clear d1 d2;obtain⟨W6,bY⟩:∃W6:World,W6=W5.alloc (.cells #[.string s.short,.string s.full] 63):=⟨_,rfl⟩;rw[<-bY];have cA:Below W5.heap.size W5 W6:=by rw[bY];exact bX.alloc bW _
     have cG:Blk W6 W5.heap.size #[.string s.short,.string s.full] 63:=by rw[bY];exact Blk.new _ _ _
     have aY:Below wr.heap.size wr W6:=cn.out.2.trans (cA.mono (by omega));have cF:=cn.out.1.below cA (by omega);have aQ:=ch.below E.out.2.1 aY (ch.lt E.out.2.1);have ao:=db.out.below aY db.out.lt;have d1:W6.cell? ⟨W5.heap.size,0,none⟩=some (.string s.short):=cG.cell 0;have d2:W6.cell? ⟨W5.heap.size,1,none⟩=some (.string s.full):=cG.cell 1;rw[eW]at d1 d2;have d3:W6.cell? ⟨wr.heap.size,3,none⟩=some (.int .i64 s.cost):=cF.cell 3;have d4:W6.cell? ⟨m+1,0,none⟩=some (.map (some m)):=ao.cell 0;obtain⟨v,t,bt,ht⟩:=AY E.out.1 s.short s.full;have fk:=bt W6 m aQ;have aO:=bQ aQ (E.out.2.2.trans (Chg.ai _ aY));clear bY cA cG aY cF aQ ao cn bt;rcases ht with ⟨rfl,b4⟩ |⟨rfl,rfl,dK⟩
     .by_cases fw:s.cost<v
      .obtain⟨w7,P,cK,bb,ba,br,cM,eM⟩:=rr E.out.1 aO.out.1 s.short s.full s.cost (fun d hd=>by
        have:=((E.out.1.mem _ _).1 hd).uniq ((E.out.1.mem _ _).1 b4);omega)
       have HN:=bP (show dZ (CIn W (l.take (k+1))) P/\ch w7 m gK (ew P)/\Chg (·=m) O w7 from⟨by rw[cq.out];exact ba.congr (fun k c=>pn _ _ _ _ _),bb,aO.out.2.au br (fun r e=>by cases e;rfl)⟩);clear bb ba br cM b4;go_wp2_with fail;exact⟨⟨k+1,P,by omega,by go_num,HN.out.1,HN.out.2.1,by omega,HN.out.2.2⟩,by simp[intOf];omega⟩
      .have HN:=bP (show dZ (CIn W (l.take (k+1))) es from by rw[cq.out];exact(E.out.1.keep b4 (by omega)).congr (fun k c=>pn _ _ _ _ _));clear b4;go_wp2_with fail;exact⟨⟨k+1,es,by omega,by go_num,HN.out,aO.out.1,by omega,aO.out.2⟩,by simp[intOf];omega⟩
     .obtain⟨w7,P,cK,bb,ba,br,cM,eM⟩:=rr E.out.1 aO.out.1 s.short s.full s.cost (fun d hd=>absurd hd (dK d));have HN:=bP (show dZ (CIn W (l.take (k+1))) P/\ch w7 m gK (ew P)/\Chg (·=m) O w7 from⟨by rw[cq.out];exact ba.congr (fun k c=>pn _ _ _ _ _),bb,aO.out.2.au br (fun r e=>by cases e;rfl)⟩);clear bb ba br cM dK;go_wp2_with fail;exact⟨⟨k+1,P,by omega,by go_num,HN.out.1,HN.out.2.1,by omega,HN.out.2.2⟩,by simp[intOf];omega⟩
    .obtain rfl:k=l.length:=by omega
     have dj:dZ (CIn W l) es:=by have:=E.out.1;rwa [take_length]at this
     have aN:=bQ dj E.out.2;clear E dj;go_upto_region 19 with (fail);obtain⟨Z,aS⟩:∃Z:World,Z=(wr.alloc (.map #[] 0)).alloc (.cells #[.map (some wr.heap.size)] 65):=⟨_,rfl⟩;rw[<-aS];have cB:Below wr.heap.size wr Z:=by rw[aS];exact(bX.alloc bW _).alloc (by simp) _
     have cN:Z.heap.size=wr.heap.size+2:=by rw[aS];simp
     have cu:ch Z wr.heap.size dR []:=by rw[aS];exact(ch.made wr dR).alloc _
     have cH:Blk Z (wr.heap.size+1) #[.map (some wr.heap.size)] 65:=by rw[aS];have:=Blk.new (wr.alloc (.map #[] 0)) #[.map (some wr.heap.size)] 65;simpa using this
     have bH:Chg (·=m) O Z:=aN.out.2.2.trans (Chg.ai _ cB);have dp:ch Z m gK (ew es):=ch.below aN.out.2.1 cB (ch.lt aN.out.2.1);have eN:m+1<wr.heap.size:=by have:=aN.out.2.2.size;omega
     have x7:Z.cell? ⟨m+1,0,none⟩=some (.map (some m)):=(U.out Z bH).2.cell 0;obtain⟨b,dx⟩:∃b,wr.heap.size=b:=⟨_,rfl⟩;rw[dx]at cN cu cH eN⊢;have H8:=bU cu cH bH dp aN.out.1;clear aS cB cu cH bH dp aN dx;go_wp2_with (refine(By (some m) Z).mono ?_;rintro e w9 ⟨rfl,aG⟩;have de:=bP aG;clear aG x7);obtain⟨H,cw⟩:∃H:World,H=w9:=⟨_,rfl⟩;rw[<-cw];have aG:H=Z.alloc (.cells #[.map (some m)] 61):=cw.trans de.out;have bk:Below Z.heap.size Z H:=by rw[aG];exact bX.alloc bW _
     have fD:H.heap.size=b+3:=by rw[aG];simp[cN]
     have df:Blk H (b+2) #[.map (some m)] 61:=by rw[aG,<-cN];exact Blk.new _ _ _
     have ds:fx H H.heap.size b [] []:=⟨ch.below H8.out.1 bk (ch.lt H8.out.1),fun p hp=>by simp at hp,fun k hk=>absurd rfl hk,fun p hp=>by simp at hp⟩;have dn:ch H m gK (ew es):=ch.below H8.out.2.2.2.1 bk (ch.lt H8.out.2.2.2.1);have dC:Blk H (b+1) #[.map (some b)] 65:=H8.out.2.1.below bk H8.out.2.1.lt;have dw:Chg (·=m) O H:=H8.out.2.2.1.trans (Chg.ai _ bk);have H9:=bV ds dn dC dw H8.out.2.2.2.2 df;clear aG bk df ds dn dC dw H8 de cw;have dJ:=er.out;refine j7 (fun u=>(toArray (α:=Value) (u 0::u 1::u 2:: .pointer (some ⟨w.heap.size,0,none⟩)::u 4::u 5::u 6:: .pointer (some ⟨m+1,0,none⟩)::u 8::u 9::u 10::u 11::u 12::u 13::u 14:: .pointer (some ⟨b+1,0,none⟩)::u 16::u 17::u 18::u 19::u 20::u 21::u 22::u 23::u 24::u 25::u 26::u 27::u 28::u 29::u 30::u 31::u 32::u 33::u 34::u 35::u 36::u 37::u 38::u 39::u 40::u 41::u 42::u 43::u 44::u 45::u 46::u 47::u 48::u 49::u 50::u 51::u 52::u 53::u 54::u 55::u 56::u 57::u 58::u 59::u 60::u 61::u 62::u 63::u 64::u 65::u 66::u 67::u 68::u 69::u 70::u 71::u 72::u 73::u 74::u 75::u 76::u 77::u 78::u 79::u 80::u 81::u 82::u 83:: .func (.func 69) #[] #[.pointer (some ⟨b+2,0,none⟩)]::u 85::u 86::u 87::u 88::u 89::u 90::u 91::u 92::u 93::u 94::u 95::u 96::u 97::u 98::u 99::u 100::u 101::u 102::u 103::u 104::u 105::u 106::u 107::u 108::u 109::u 110::u 111::u 112::u 113::u 114::u 115::u 116::u 117::[]))) rfl ?_;intro u;refine(wpIn_wide (n:=5)).1 ?_;refine qj (α:=ByteArray×ByteArray) (encs:=fun x=> #[chV x]) (Kp:=iB m (b+2)) (S:=fun ys=>(ys.map chV).Perm ((ew es).map (·.1))) (Sp:=fun _=>True) (N:=(ew es).length) (w0:=H)
      rfl (by omega) (gf:=69) (lb:= #[.pointer (some ⟨b+2,0,none⟩)]) rfl trivial (enters_of func69 (by kernel_rfl) rfl)
      ?seq (fun h k=>h.trans k) ?kb bX (fun _=>rfl)
      (fun pre X=>(∃aa,fx X H.heap.size b pre aa)/\Chg (fun k=>k=b) H X)
      ?hI ?h0
      (fun Wz x a' X=>∃g,a'={ tmps:=(toArray (α:=Value) (u 0::u 1::u 2:: .pointer (some ⟨w.heap.size,0,none⟩)::u 4::u 5::u 6:: .pointer (some ⟨m+1,0,none⟩)::u 8::u 9::u 10::u 11::u 12::u 13::u 14:: .pointer (some ⟨b+1,0,none⟩):: .pointer (some ⟨g,0,none⟩)::u 17::u 18::u 19::u 20::u 21::u 22::u 23::u 24::u 25::u 26::u 27::u 28::u 29::u 30::u 31::u 32::u 33::u 34::u 35::u 36::u 37::u 38::u 39::u 40::u 41::u 42::u 43::u 44::u 45::u 46::u 47::u 48::u 49::u 50::u 51::u 52::u 53::u 54::u 55::u 56::u 57::u 58::u 59::u 60::u 61::u 62::u 63::u 64::u 65::u 66::u 67::u 68::u 69::u 70::u 71::u 72::u 73::u 74::u 75::u 76::u 77::u 78::u 79::u 80::u 81::u 82::u 83:: .func (.func 69) #[] #[.pointer (some ⟨b+2,0,none⟩)]:: .agg #[.string x.1,.string x.2]::u 86::u 87::u 88::u 89::u 90::u 91::u 92::u 93::u 94::u 95::u 96::u 97::u 98::u 99::u 100::u 101::u 102::u 103::u 104::u 105::u 106::u 107::u 108::u 109::u 110::u 111::u 112::u 113::u 114::u 115::u 116::u 117::[])),defers:=[] }/\Blk X g #[.string x.1,.string x.2] 63/\H.heap.size<=g/\iB m (b+2) Wz X)
      ?hAx ?assign ?body ?done
     case seq=>exact Bz 4 (by omega) (b+2) m (ew es) H H9.out.2.2.2.2.2 H9.out.2.1
     case kb=>
      intro X lv ob cY hl h1 _ h3;exact uh (B:=H.heap.size) (by omega) (by omega) X lv ob cY hl h1 h3
     case hI=>
      rintro pre X Y row ⟨⟨aa,h1⟩,h2⟩ hg hr;exact⟨⟨aa,h1.kept hg (fun r e=>⟨by have:=(hr r e).1;omega,(hr r e).2⟩)⟩,h2.aH hg (fun r e=>(hr r e).1)⟩
     case h0=>exact⟨⟨[],H9.out.1⟩,Chg.refl _ _⟩
     case hAx=>
      rintro Wz x a' X lv ob cY ⟨g,rfl,k1,k2,k3⟩ hl h1 h2 h3;refine⟨g,rfl,?_,k2,k3.trans (uh (B:=H.heap.size) (by omega) (by omega) X lv ob cY hl h1 h3)⟩;unfold Blk at k1⊢;rw[putObj_heap_other (fun e=>?_)]
      .exact k1
      .subst e;rw[h1]at k1;obtain rfl:=Option.some.inj k1;cases h2
     case assign=>
      rintro lv pre x X K ⟨⟨aa,h1⟩,h2⟩ hK;have hz:=h2.size;have hb:Below X.heap.size X (X.alloc (.cells #[.string x.1,.string x.2] 63)):=bX.alloc bW _;have Hb:=bP hb;clear hb;unfold chV;gi_wp2;refine hK _ _ ⟨Hb.out.size,fun k o _ hk _=>(Hb.out.block k (Array.getElem?_eq_some_iff.1 hk).1).trans hk⟩ ⟨⟨aa,h1.below Hb.out⟩,h2.trans (Chg.ai _ Hb.out)⟩ ⟨X.heap.size,rfl,Blk.new _ _ _,hz,yo Hb.out (by omega) (by omega)⟩
     case body=>
      rintro lv pre x a' Wz I ⟨⟨aa,bc⟩,b1⟩ ⟨g,rfl,bq,fy,dD⟩ fo;have hz:=b1.size;obtain⟨v0,b9,aC,ei⟩:=bc.look x.1;obtain⟨va,vc,rfl, -, -⟩:=b8.ah aC;have hlen:(cO pre x.1).length<=pre.length:=by unfold cO;rw[length_map];exact length_filter_le _ _
      have eJ:(ew es).length=es.length:=by simp[ew]
      have fu:=aP.out.2.1;have fA:=Hp.out.most;have aT:Below I.heap.size I ((I.alloc (.cells #[.string x.2] 9)).drew):=(bX.alloc bW _).drew;have b6:Blk I (b+1) #[.map (some b)] 65:=H9.out.2.2.1.chg b1 (by omega);have fm:(Instr.lookup 65 (.map (some b)) (.string x.1) false).run prog I.drew= .ok (.slice va (cO pre x.1).length vc) I.drew:=bc.aW (w':=I.drew) rfl b9;have cv:=bc.below aT;have fl:(Instr.lookup 65 (.map (some b)) (.string x.1) false).run prog ((I.alloc (.cells #[.string x.2] 9)).drew)= .ok (.slice va (cO pre x.1).length vc) ((I.alloc (.cells #[.string x.2] 9)).drew):=cv.aW rfl b9;have cR:=b6.below aT b6.lt;have b3:=bq.below aT bq.lt;have A:=bV cv (cJ aC aT) b9 aT cR b3;have HX:=bT bc aC b1 dD;have s1:I.drew.cell? ⟨b+1,0,none⟩=some (.map (some b)):=b6.cell 0;have s2:I.drew.cell? ⟨g,0,none⟩=some (.string x.1):=bq.cell 0;have s3:I.drew.cell? ⟨g,1,none⟩=some (.string x.2):=bq.cell 1;have eC:I.drew.cell? ⟨b+1,0,none⟩=some (.map (some b))/\I.drew.cell? ⟨g,0,none⟩=some (.string x.1)/\I.drew.cell? ⟨g,1,none⟩=some (.string x.2):=⟨s1,s2,s3⟩;have cj:=bP (show((I.alloc (.cells #[.string x.2] 9)).drew).cell? ⟨b+1,0,none⟩=some (.map (some b))/\((I.alloc (.cells #[.string x.2] 9)).drew).cell? ⟨g,0,none⟩=some (.string x.1)/\((I.alloc (.cells #[.string x.2] 9)).drew).cell? ⟨g,1,none⟩=some (.string x.2)from⟨cR.cell 0,b3.cell 0,b3.cell 1⟩);clear s1 s2 s3 bc b1 dD aC b9 ei cv cR b3 aT b6 bq;gi_wp2;refine jE (S:=fun w'=>w'.cell? ⟨b+1,0,none⟩=some (.map (some b))/\w'.cell? ⟨g,0,none⟩=some (.string x.1)/\w'.cell? ⟨g,1,none⟩=some (.string x.2)) (by kernel_rfl) (by kernel_rfl) (by rintro⟨_,_,h⟩;first |exact h |cases h.1) ?_;refine wpAnyH_take (i:=0) (v:= .map (some b)) rfl (by kernel_rfl) (by kernel_rfl) (by kernel_rfl) (fun _ _ _ h=>h) (Or.inl ⟨by rfl,?_⟩) (by assumption) ?_
      .intro w' F;obtain⟨s0,s1,s2⟩:=F;go_simp
      try simp only[Act.put,setIfInBounds_toArray]
      refine wpAnyH_take (i:=1) (v:= .pointer (some ⟨g,0,none⟩)) rfl (by kernel_rfl) (by kernel_rfl) (by kernel_rfl) (fun _ _ _ h=>h) (Or.inl ⟨by rfl,?_⟩) (by assumption) ?_
      .intro w' F;obtain⟨s0,s1,s2⟩:=F;go_simp
      try simp only[Act.put]
      refine wpAnyH_take (i:=2) (v:= .string x.1) rfl (by kernel_rfl) (by kernel_rfl) (by kernel_rfl) (fun _ _ _ h=>h) (Or.inl ⟨by rfl,?_⟩) (by assumption) ?_
      .intro w' F;obtain⟨s0,s1,s2⟩:=F;go_simp
      try simp only[Act.put]
      refine wpAnyH_take (i:=3) (v:= .map (some b)) rfl (by kernel_rfl) (by kernel_rfl) (by kernel_rfl) (fun _ _ _ h=>h) (Or.inl ⟨by rfl,?_⟩) (by assumption) ?_
      .intro w' F;obtain⟨s0,s1,s2⟩:=F;go_simp
      try simp only[Act.put]
      refine wpAnyH_take (i:=4) (v:= .pointer (some ⟨g,0,none⟩)) rfl (by kernel_rfl) (by kernel_rfl) (by kernel_rfl) (fun _ _ _ h=>h) (Or.inl ⟨by rfl,?_⟩) (by assumption) ?_
      .intro w' F;obtain⟨s0,s1,s2⟩:=F;go_simp
      try simp only[Act.put]
      refine wpAnyH_take (i:=5) (v:= .string x.1) rfl (by kernel_rfl) (by kernel_rfl) (by kernel_rfl) (fun _ _ _ h=>h) (Or.inl ⟨by rfl,?_⟩) (by assumption) ?_
      .intro w' F;obtain⟨s0,s1,s2⟩:=F;go_simp
      try simp only[Act.put]
      refine wpAnyH_take (i:=7) (v:= .pointer (some ⟨g,1,none⟩)) rfl (by kernel_rfl) (by kernel_rfl) (by kernel_rfl) (fun _ _ _ h=>h) (Or.inl ⟨by rfl,?_⟩) (by assumption) ?_
      .intro w' F;obtain⟨s0,s1,s2⟩:=F;go_simp
      try simp only[Act.put]
      refine wpAnyH_take (i:=8) (v:= .string x.2) rfl (by kernel_rfl) (by kernel_rfl) (by kernel_rfl) (fun _ _ _ h=>h) (Or.inl ⟨by rfl,?_⟩) (by assumption) ?_
      .intro w' F;obtain⟨s0,s1,s2⟩:=F;go_simp
      try simp only[Act.put]
      refine rd2 6 9 (fun K hK=>?_) (fun K hK=>?_)
      .simp only[Act.put,getElem_toArray,getElem_cons_succ,getElem_cons_zero,setIfInBounds_toArray,set_cons_zero,set_cons_succ];go_simp;refine hK.out _ _ eC (fun _=>?_);clear hK K;refine rd1 9 (fun K hK=>?_);try simp only[Act.put,setIfInBounds_toArray,set_cons_zero,set_cons_succ]
       go_simp;refine hK.out _ _ cj.out (fun _=>?_);clear hK K;try simp only[Act.put,getElem_toArray,getElem_cons_succ,getElem_cons_zero,setIfInBounds_toArray,set_cons_zero,set_cons_succ]
       refine rd1 10 (fun K hK=>?_);refine step_append_lies _ (by rfl) _ _ _ (by rfl) H.heap.size 9 i0 (.string ByteArray.empty) 1 16 underlying29 hi dQ dT dU rfl (by decide) (.slice va (cO pre x.1).length vc) (cO pre x.1).length (strs (cO pre x.1)) (by rfl) A.out.2.1 ⟨I.heap.size,0,none⟩ 1 1 [.string x.2] (by rfl) rfl (by exact cell_one_new _ _ _) (by simp[Value.oneCell']) (by decide) (by unfold maxLen;omega) (by omega) (by simp;omega) _ rfl ?_;intro gg cap X2 ad j bj cI;obtain⟨X3,ev,ek,be,aF,eU⟩:=A.out.1.step x A.out.2.2.1 ad j bj;have bm:=(A.out.2.2.2.2.1).grown j (fun e=>Blk.own_ne A.out.2.2.2.2.1 A.out.2.1 (by decide) e.symm);have ab:=(A.out.2.2.2.2.2).grown j (fun e=>Blk.own_ne A.out.2.2.2.2.2 A.out.2.1 (by decide) e.symm);have bu:ch X2 b dR aa:=A.out.1.isMap.grown j (fun e=>gF A.out.2.1 A.out.1.isMap e.symm);have bG:=bm.grown aF (fun e=>by injection e with e;omega);have aE:=ab.grown aF (fun e=>Blk.bd ab bu (by injection e));have HE:=bP (ze (m:=m) (Bt:=b+2) HX.out.1 HX.out.2.1 A.out.2.2.2.1 j be aF HX.out.2.2.1 (by omega) (by omega) (by omega) (by omega) (by omega));refine hK.out _ _ ⟨bm.cell 0,ab.cell 0,ab.cell 1⟩ (fun _=>?_);clear hK K bj cI j ad be bu;try simp only[Act.put,setIfInBounds_toArray,set_cons_zero,set_cons_succ]
       refine rd1 11 (fun K hK=>?_);go_simp;refine hK.out _ _ ⟨bG.cell 0,aE.cell 0,aE.cell 1⟩ (fun _=>?_);clear hK K;refine wpAnyH_done (by kernel_rfl) ?_ _;exact⟨rfl,HE.out.1,HX.out.2.2.2.trans HE.out.2.1,HE.out.2.2.1,HE.out.2.2.2⟩
      .simp only[Act.put,getElem_toArray,getElem_cons_succ,getElem_cons_zero,setIfInBounds_toArray,set_cons_zero,set_cons_succ];go_simp;refine hK.out _ _ cj.out (fun _=>?_);clear hK K;refine rd1 6 (fun K hK=>?_);try simp only[Act.put,setIfInBounds_toArray,set_cons_zero,set_cons_succ]
       go_simp;refine hK.out _ _ cj.out (fun _=>?_);clear hK K;try simp only[Act.put,getElem_toArray,getElem_cons_succ,getElem_cons_zero,setIfInBounds_toArray,set_cons_zero,set_cons_succ]
       refine rd1 10 (fun K hK=>?_);refine step_append_lies _ (by rfl) _ _ _ (by rfl) H.heap.size 9 i0 (.string ByteArray.empty) 1 16 underlying29 hi dQ dT dU rfl (by decide) (.slice va (cO pre x.1).length vc) (cO pre x.1).length (strs (cO pre x.1)) (by rfl) A.out.2.1 ⟨I.heap.size,0,none⟩ 1 1 [.string x.2] (by rfl) rfl (by exact cell_one_new _ _ _) (by simp[Value.oneCell']) (by decide) (by unfold maxLen;omega) (by omega) (by simp;omega) _ rfl ?_;intro gg cap X2 ad j bj cI;obtain⟨X3,ev,ek,be,aF,eU⟩:=A.out.1.step x A.out.2.2.1 ad j bj;have bm:=(A.out.2.2.2.2.1).grown j (fun e=>Blk.own_ne A.out.2.2.2.2.1 A.out.2.1 (by decide) e.symm);have ab:=(A.out.2.2.2.2.2).grown j (fun e=>Blk.own_ne A.out.2.2.2.2.2 A.out.2.1 (by decide) e.symm);have bu:ch X2 b dR aa:=A.out.1.isMap.grown j (fun e=>gF A.out.2.1 A.out.1.isMap e.symm);have bG:=bm.grown aF (fun e=>by injection e with e;omega);have aE:=ab.grown aF (fun e=>Blk.bd ab bu (by injection e));have HE:=bP (ze (m:=m) (Bt:=b+2) HX.out.1 HX.out.2.1 A.out.2.2.2.1 j be aF HX.out.2.2.1 (by omega) (by omega) (by omega) (by omega) (by omega));refine hK.out _ _ ⟨bm.cell 0,ab.cell 0,ab.cell 1⟩ (fun _=>?_);clear hK K bj cI j ad be bu;try simp only[Act.put,setIfInBounds_toArray,set_cons_zero,set_cons_succ]
       refine rd1 11 (fun K hK=>?_);go_simp;refine hK.out _ _ ⟨bG.cell 0,aE.cell 0,aE.cell 1⟩ (fun _=>?_);clear hK K;refine wpAnyH_done (by kernel_rfl) ?_ _;exact⟨rfl,HE.out.1,HX.out.2.2.2.trans HE.out.2.1,HE.out.2.2.1,HE.out.2.2.2⟩
     case done=>
      rintro D ys X hD hS ⟨⟨aa,hT⟩,M⟩ dm;have Q:=Dl hS;have hR:ik l W (rowOf es ys):=⟨fun x hx=>Dp H9.out.2.2.2.2.1 Q hx⟩;have fG:ys.length<=112:=by
       have h0:=Q.length_eq;have h1:=Hp.out.most;have h2:=aP.out.2.1;rw[length_map]at h0;omega
      have fF:=M.size;have dt:Chg (·=m) O X:=⟨M.os.trans H9.out.2.2.2.1.os,M.tape.trans H9.out.2.2.2.1.tape,M.output.trans H9.out.2.2.2.1.output,Nat.le_trans H9.out.2.2.2.1.size M.size,fun k hk eP=>(M.block k (by omega) (by omega)).trans (H9.out.2.2.2.1.block k hk eP)⟩;have J:=bU hR (hT.row) dt (H9.out.2.1.chg M (by omega)) (H9.out.2.2.1.chg M (by omega));have bN:=bQ dm Q;obtain⟨f,hf⟩:∃f,rowOf es ys=f:=⟨_,rfl⟩;have Hf:=bP (fun x=>show(f x).length=(cO ys x).length by rw[<-hf];exact B8 es ys x);have dd:=bP hf;rw[hf]at J;clear hS hT M dm Q hR dt hf;have x0:=((U.out X J.out.2.2.1).1).1;have xc:X.cell? ⟨b+1,0,none⟩=some (.map (some b)):=J.out.2.2.2.2.cell 0;go_wp2_with fail;go_loop [17,99] (fun c i=>∃k:Nat,k<=W.length/\i= .int .i64 k/\c= .int .i64 ((cW ((W.map f).take k):Nat):Int)/\cW ((W.map f).take k)<=64) (fun _ i=>W.length-(intOf i).toNat);case atStart=>exact⟨0,zero_le _,rfl,rfl,by simp[cW]⟩
      case round=>
       obtain⟨k,hk,rfl,rfl,bw⟩:=hrel;by_cases aw:k<W.length
       .obtain⟨g,o,rfl,hg,dO⟩:=(U.out X J.out.2.2.1).1.2.2.1.strs (by omega);have x1:=dO k aw;obtain⟨x,hx⟩:∃x,W[k]=x:=⟨_,rfl⟩;rw[hx]at x1;obtain⟨ra,rc,bt, -⟩:=J.out.2.1 x;have ej:=bt X rfl;have dA:(W.map f)[k]?=some (f x):=by rw[getElem?_map,getElem?_eq_getElem aw,hx];rfl
        have bx:=BM dA;rw[Hf.out x]at bx;have eY:=Cn ys x;obtain⟨p,hp⟩:∃p,cW ((W.map f).take k)=p:=⟨_,rfl⟩;obtain⟨n,hn⟩:∃n,(cO ys x).length=n:=⟨_,rfl⟩;rw[hp]at bw bx⊢;rw[hn]at ej bx eY;have eR:p*n<=64*112:=Nat.mul_le_mul bw (by omega);have c6:IntKind.i64.wrap ((p:Int)*(n:Int))=((p*n:Nat):Int):=by
         have e:(p:Int)*(n:Int)=((p*n:Nat):Int):=by simp
         rw[e];exact IntWalk.i64_in _ (by omega)
        have cp:=bQ bx hp;obtain⟨q,hq⟩:∃q,p*n=q:=⟨_,rfl⟩;rw[hq]at eR c6;have Hq:=bP hq;clear bt dA bx hn hx dO hp hq;by_cases fi:64<q
        .have dW:=bP (show dq l W [] 2 from .inr (.inl ⟨⟨Hp.out,aP.out⟩,by
          have h1:=vi (Cs:=W.map f) (fun C hC=>by
           obtain⟨y,hy,rfl⟩:=mem_map.1 hC;exact J.out.1.pos Hp.out y hy) (k+1)
          rw[cp.out.1,Hq.out,J.out.1.prod]at h1;omega,rfl,rfl⟩))
         go_wp2_with fail;exact yZ (L:=[]) dW.out rfl rfl (by omega) bN.out.1 (ownsRow_nil _ _ _ _) (by simp) (U.out X J.out.2.2.1).1.2.2.2
        .go_wp2_with fail;exact⟨⟨k+1,by omega,by go_num,by rw[cp.out.1,Hq.out],by rw[cp.out.1,Hq.out];omega⟩,by simp[intOf];omega⟩
       .obtain rfl:k=W.length:=by omega
        have dL:cW (W.map f)<=64:=by rw[take_of_length_le (by simp)]at bw;exact bw
        have bR:=bP dL;clear dL bw x0 xc;go_upto_region 32 with (fail);generalize bh:((X.alloc _).alloc _)=Y1;have cU:Blk Y1 X.heap.size #[.slice none 0 0] 36:=by rw[<-bh];exact(Blk.new _ _ _).alloc _
        obtain⟨T,bA⟩:∃T,Blk Y1 (X.heap.size+1) #[.nilFunc] T:=by
         rw[<-bh];have:=Blk.new (X.alloc (.cells #[.slice none 0 0] 36)) #[.nilFunc];simp only[size_alloc]at this;exact⟨_,this _⟩
        have bE:Below X.heap.size X Y1:=by rw[<-bh];exact(bX.alloc bW _).alloc (by simp) _
        have bK:Y1.heap.size=X.heap.size+2:=by rw[<-bh];simp
        clear bh;obtain⟨ob,aU⟩:∃ob,X.heap.size=ob:=⟨_,rfl⟩;rw[aU]at cU bA bE bK⊢;have f21:=bA.frozen 0;have eu:Y1.cell? ⟨ob+1,0,none⟩=some .nilFunc:=bA.cell 0;go_upto_region 33 with (fail);generalize hY:Y1.setCell _ _=Y;have cV:Blk Y ob #[.slice none 0 0] 36:=by rw[<-hY];exact cU.far (by show ob≠ob+1;omega) _
        have bM:Blk Y (ob+1) #[.func (.func 31) #[] #[.pointer (some ⟨w.heap.size,0,none⟩),.pointer (some ⟨ob,0,none⟩),.pointer (some ⟨b+1,0,none⟩),.pointer (some ⟨ob+1,0,none⟩),.pointer (some ⟨m+1,0,none⟩)]] T:=by rw[<-hY];exact bA.aj 0 _
        have cC:Below ob X Y:=by rw[<-hY];exact bE.setCell (by show ob<=ob+1;omega) _
        have dM:Y.heap.size=ob+2:=by rw[<-hY];simp[bK]
        clear hY cU bA bE bK f21 eu;have eJ:b+1<ob:=by rw[<-aU];exact J.out.2.2.2.2.lt
        have b7:∀k:Nat,∃(a:Option Addr) (c:Nat),∀x,W[k]?=some x->(∀wr:World,wr.heap[b]?=X.heap[b]?->(Instr.lookup 65 (.map (some b)) (.string x) false).run prog wr= .ok (.slice a (cO ys x).length c) wr)/\X.ownsRow H.heap.size 9 1 (.slice a (cO ys x).length c) (cO ys x).length (strs (cO ys x)):=fun k=>by
         cases hk:W[k]? with
         |none=>exact⟨none,0,fun x h=>by cases h⟩
         |some y=>
          obtain⟨a,c,h1,h2⟩:=J.out.2.1 y;exact⟨a,c,fun x h=>by cases h;exact⟨h1,h2⟩⟩
        obtain⟨RA,RC,dr⟩:=DV b7;have eG:=aP.out.1;have ef:=aP.out.2.1;have dk:∀wr,Chg (·=ob) Y wr->wr.cell? ⟨w.heap.size,0,none⟩=some (.slice wa W.length wc)/\b8 wr wr.heap.size wa (strs W)/\wr.cell? ⟨b+1,0,none⟩=some (.map (some b))/\wr.cell? ⟨m+1,0,none⟩=some (.map (some m))/\
          wr.cell? ⟨ob+1,0,none⟩=some (.func (.func 31) #[] #[.pointer (some ⟨w.heap.size,0,none⟩),.pointer (some ⟨ob,0,none⟩),.pointer (some ⟨b+1,0,none⟩),.pointer (some ⟨ob+1,0,none⟩),.pointer (some ⟨m+1,0,none⟩)])/\
          (∀(k:Nat) (x:ByteArray) (C:List (ByteArray×Int)),W[k]?=some x->(W.map f)[k]?=some C->b8 wr wr.heap.size (RA k) (strs (C.map (·.1)))/\(Instr.lookup 65 (.map (some b)) (.string x) false).run prog wr= .ok (.slice (RA k) C.length (RC k)) wr/\
           ∀p∈C,(Instr.lookup 61 (.map (some m)) (.agg #[.string x,.string p.1]) false).run prog wr= .ok (.int .i64 p.2) wr):=by
         intro wr ar;have G:Below ob X wr:=cC.trans (ar.below (fun k hk=>by cases hk;exact bW) (by omega));obtain⟨⟨z0, -,z1, -⟩,z2⟩:=U.out X J.out.2.2.1;rw[aU]at z1;refine⟨(G.cell (p:=⟨w.heap.size,0,none⟩) (by show w.heap.size<ob;omega)).trans z0,(z1.below G bW).more (by rw[<-aU];exact G.size),(J.out.2.2.2.2.below G (by omega)).cell 0,(z2.below G (by omega)).cell 0,(bM.chg ar (by omega)).cell 0,fun k x C hk hC=>?_⟩;obtain⟨h1,h2⟩:=dr k x hk;have ey:C=f x:=by rw[getElem?_map,hk]at hC;exact(Option.some.inj hC).symm
         subst ey;have eh:(f x).map (·.1)=cO ys x:=by rw[<-dd.out];exact pX _ _ _
         refine⟨?_,?_,fun p hp=>?_⟩
         .rw[eh];obtain⟨a,c,e1, -,e2⟩:=b8.ah (cJ h2 (by rw[aU];exact G));cases e1
          exact e2
         .rw[Hf.out x];exact h1 wr (G.block b (by omega))
         .rw[<-dd.out]at hp;unfold rowOf at hp;obtain⟨t,ht,rfl⟩:=mem_map.1 hp;obtain⟨⟨kk,d⟩,hd,e⟩:=mem_map.1 (bN.out.2.mem_iff.1 (pQ.1 ht));simp only at e;subst e;exact DX hd (J.out.2.2.2.1.below G (by have:=J.out.2.2.2.1.lt;omega))
        have b2:=J.out.1.cost Hp.out;have a1:∀C∈W.map f,1<=C.length:=fun C hC=>by
         obtain⟨y,hy,rfl⟩:=mem_map.1 hC;exact J.out.1.pos Hp.out y hy
        have aZ:=ky a1;have HQ:=bP (Em Y w.heap.size ob (b+1) (ob+1) (m+1) W eG ef (W.map f) (by simp) (by omega) wa wc b m RA RC dk b2 (fun C hC=>⟨a1 C hC,Nat.le_trans (aZ.2 C hC) bR.out⟩)
         W.length [] 0 (.slice none 0 0) [] (.slice none 0 0) Y (by simp) (by omega) (by simp) (by simpa using bR.out) (Chg.refl _ _) cV (ownsRow_nil _ _ _ _) (ownsRow_nil _ _ _ _))
        have fa:Y.cell? ⟨ob+1,0,none⟩=some (.func (.func 31) #[] #[.pointer (some ⟨w.heap.size,0,none⟩),.pointer (some ⟨ob,0,none⟩),.pointer (some ⟨b+1,0,none⟩),.pointer (some ⟨ob+1,0,none⟩),.pointer (some ⟨m+1,0,none⟩)]):=bM.cell 0;have HY:=bS cC aZ.1 dM;clear dk dr b7 b2 a1 aZ cV bM cC dM;go_wp2_with (refine HQ.out.mono ?_;rintro e wA ⟨rfl,e4,new,bF,R, -,aB,cQ,bI⟩;clear fa;have xo:=bF.cell);have bJ:new.length=cW (W.map f):=by have:=congrArg length aB;rw[length_map,length_nil,drop_zero,jq]at this;exact this
        have eO:0<new.length:=by rw[bJ];exact HY.out.2.1
        have fp:new.length<=64:=by rw[bJ];exact bR.out
        clear bJ;rw[nil_append]at R;obtain⟨gS,cS,rfl⟩:∃gS cS,e4= .slice (some ⟨gS,0,none⟩) new.length cS:=by
         rcases R.2 with ⟨-,h0⟩ |⟨g,cap,cur,e, -, -, -, -⟩
         .omega
         .exact⟨g,cap,e⟩
        have dE:(new.map Spl.key).Nodup:=by
         rw[aB,length_nil,drop_zero];exact xm (jd _ _ _ (fun C hC=>by
          obtain⟨y,hy,rfl⟩:=mem_map.1 hC;exact(J.out.1.each y hy).nodup))
        have eK:=R.lt gS rfl;have fv:=bI.size;have fE:Y.heap.size<=gS:=eK.1;have HS:=bP (Aw new eO (uo dE) gS cS Y.heap.size wA (fun x hx=>by
         obtain⟨y1,y2⟩:=cQ x hx;obtain⟨a,c,e1, -,e2⟩:=b8.ah y2;cases e1
         exact⟨y1,e2,Ec y2 R⟩) (by omega) R)
        have HA:=bU bF R aB cQ bI;clear bF R aB cQ bI dE;refine HS.out.mono ?_;rintro e wB ⟨rfl,S,Q,eS,eQ,aq⟩;clear xo;have fH:wB.cell? ⟨ob,0,none⟩=some (.slice (some ⟨gS,0,none⟩) new.length cS):=(Blk.chg (show Blk wA ob #[.slice (some ⟨gS,0,none⟩) new.length cS] 36 from HA.out.1) aq (by have:=HY.out.2.2;omega)).cell 0;go_wp2_with fail;have eD:=Q.length_eq;have eH:Below w.heap.size X wB:=by
         refine⟨aq.os.trans (HA.out.2.2.2.2.os.trans HY.out.1.os),aq.tape.trans (HA.out.2.2.2.2.tape.trans HY.out.1.tape),aq.output.trans (HA.out.2.2.2.2.output.trans HY.out.1.output),Nat.le_trans HY.out.1.size (Nat.le_trans HA.out.2.2.2.2.size aq.size),fun k hk=>?_⟩;have eT:=HY.out.2.2;refine(aq.block k (by omega) (by omega)).trans ((HA.out.2.2.2.2.block k (by omega) ?_).trans (HY.out.1.block k (by omega)));rintro(e |e |e)
         .omega
         .cases e
         .have:=e.1;omega
        have ez:=(Array.getElem?_eq_some_iff.1 bN.out.1).1;have eT:=HY.out.2.2;rw[aU]at ez;refine yZ (L:=S) (nG Hp.out aP.out J.out.1 bR.out ?_ eS) rfl rfl (by omega) ?_ ?_ ?_ ((U.out X J.out.2.2.1).1.2.2.2.trans eH)
        .have h1:=Q.map Spl.key;rw[HA.out.2.2.1,length_nil,drop_zero]at h1;exact h1
        .refine(aq.block D (by omega) (by omega)).trans ((HA.out.2.2.2.2.block D (by omega) ?_).trans ((HY.out.1.block D (by omega)).trans bN.out.1));rintro(e |e |e)
         .omega
         .cases e
         .have:=e.1;omega
        .rw[eD];exact cP (base:=Y.heap.size) eQ (by omega)
        .intro x hx;obtain⟨y1,y2⟩:=HA.out.2.2.2.1 x (Q.mem_iff.1 hx);refine⟨y1,cP (fj y2 aq (fun q hq e=>?_)) (by omega)⟩;rcases own_ne y2 HA.out.2.1 (by decide)with r |r
         .rw[hq]at r;cases r
         .exact r (by rw[hq,e];rfl)
end
section
open Go.RowKit Go.Shelf Classical
theorem gW.read {l:List Sht}{W:List ByteArray}{e:Ending}(h:gW l W w e w'):∃(b:Option Addr) (lc:Nat) (L:List Spl) (err:Int),e= .returned (.tuple #[.slice b L.length lc,.int .i64 err])/\dq l W (L.map Spl.key) err/\fG w' w'.heap.size b L/\Below w.heap.size w w':=by
 obtain⟨n,L,err,rfl,h1,k,d,m⟩:=h;obtain⟨b,lc,rfl, -,f⟩:=b8.ah k;exact⟨b,lc,L,err,rfl,h1,⟨f,fun x g=>⟨(d x g).1,by
  obtain⟨a,c,i, -,j⟩:=b8.ah (d x g).2;cases i
  exact j⟩⟩,m⟩
theorem dq.err {l:List Sht}{W:List ByteArray}{all:List (List ByteArray×Int)}{e:Int}(h:dq l W all e):all.length<=64/\(e≠0->all=[]):=by
 rcases h with ⟨_,rfl,rfl⟩ |⟨_,_,rfl,rfl⟩ |⟨_,h1,rfl,_,a,_⟩
 .exact⟨by simp,fun _=>rfl⟩
 .exact⟨by simp,fun _=>rfl⟩
 .exact⟨by omega,fun h=>absurd rfl h⟩
theorem eE (w:World)(t:TypeId)(size:Nat):(w.alloc (.cells #[] t)).ownsRow w.heap.size t size (.slice (some ⟨w.heap.size,0,none⟩) 0 0) 0 []:=by
 refine⟨by simp,.inr ⟨w.heap.size,0,#[],rfl,bW,heap_alloc_new w _,bW,zero_le _,?_,?_⟩⟩<;>simp
theorem tZ:∀{rows:List (List Value)} {i j:Nat} {r:List Value} {x:Value},(∀r∈rows,r.length=k)->rows[i]?=some r->r[j]?=some x->rows.flatten[i*k+j]?=some x
 |[],i,j,r,x,_,h,_=>by simp at h
 |b::rows,0,j,r,x,hk,h,a=>by
  obtain rfl:b=r:=by simpa using h
  rw[flatten_cons,Nat.zero_mul,Nat.zero_add,getElem?_append_left (List.getElem?_eq_some_iff.1 a).1];exact a
 |b::rows,i+1,j,r,x,hk,h,a=>by
  have e:=hk b (mem_cons_self ..);have d:=tZ (fun q c=>hk q (mem_cons_of_mem _ c)) (by simpa using h) a;rw[flatten_cons,getElem?_append_right (by rw[Nat.add_mul];omega),show(i+1)*k+j-b.length=i*k+j by rw[Nat.add_mul];omega];exact d
theorem b8.rows {a:Option Addr}{rows:List (List Value)}(h:b8 w B a rows.flatten)(hk:∀r∈rows,r.length=k)(m:0<k):c8 w B k a rows:=fun l=>by
 obtain⟨b,off,e,c,d⟩:=h (by
  rcases rows with _ |⟨r,rows⟩
  .simp at l
  .have:=hk r (mem_cons_self ..);rw[flatten_cons,length_append];omega)
 refine⟨b,off,e,c,fun i r f j x g=>?_⟩;have:=d _ x (tZ hk f g);rwa [<-Nat.add_assoc]at this
theorem dw {l:List ByteArray}:∀u∈strs l,u.oneCell'=true:=fun u hu=>by
 obtain⟨x,_,rfl⟩:=mem_map.1 hu;rfl
theorem run_append_nil (w:World)(base:Nat)(t ty e:TypeId)(i:TypeInfo)(size c:Nat)(f:prog.underlying t=some (.slice e))(b:prog.info? e=some i)
  (v:Value)(n:Nat)(xs:List Value)(a:w.ownsRow base e size v n xs):(Builtin.append_ #[t,t] ty #[v,.slice none 0 c]).run prog w= .ok v w:=by
 rcases a.2 with ⟨rfl,rfl⟩ |⟨g,cap,cur,rfl,_,_,d,_⟩
 .simp[Builtin.append_,run_underlying f,sizeOf,typeInfo,b,Builtin.lenOf,Builtin.firstCells]
 .simp[Builtin.append_,run_underlying f,sizeOf,typeInfo,b,Builtin.lenOf,Builtin.firstCells,d,storeCells]
set_option maxRecDepth 100000
theorem oP {K:Act->World->Prop}(s x:Operand)(t:TypeId)
  (H:o.op= .call { callee:= .builtin .append,args:= #[s,x],argTypes:= #[t,t] })(base:Nat)(e:TypeId)(i:TypeInfo)(z:Value)(size bytes:Nat)(J:prog.underlying t=some (.slice e))(F:prog.info? e=some i)(R:i.zero=some z)
  (q:i.size=size)(D:i.bytes=bytes)(M:z.cells.size=size)(r:0<size)
  (v:Value)(n:Nat)(xs:List Value)(I:a.eval s=v)(d:w.ownsRow base e size v n xs)(fa:Option Addr)(m c:Nat)(f:List Value)(L:a.eval x= .slice fa m c)(hm:f.length=m*size)(l:b8 w B fa f)(h1:∀u∈f,u.oneCell'=true)
  (C:n+m<=maxLen)(k:(n+m)*bytes<=140737488355328)(p:base<=w.heap.size)
  (h:∀v' w',w'.ownsRow base e size v' (n+m) (xs++f)->w.grownBy w' v.ownBlock->K (a.put o.dst v') w'):o.wp prog a w K Q:=by
 cases fa with
 |none=>
  have G:m=0:=by
   rcases eq_zero_or_pos m with g |g
   .exact g
   .obtain⟨_,_,e,_⟩:=l (by rw[hm];exact Nat.mul_pos g r);cases e
  subst G;have P:f=[]:=length_eq_zero_iff.1 (by rw[hm,Nat.zero_mul]);subst P;have A:=run_append_nil w base t o.type e i size c J F v n xs d;unfold Oper.wp;simp[execOp,H,resolve,invoke,builtin,I,L,A,Result.andThen];exact h v w (by simpa using d) (grownBy.refl _ _)
 |some N=>
  refine wp_append_own w s x t H base e i z size bytes J F R q D M r v n xs I d N m c f L hm (fun j u y=>?_) h1 C k p (fun v' w' h1 O _=>h v' w' h1 O);have S:=(List.getElem?_eq_some_iff.1 y).1;obtain⟨b,off,e,_,E⟩:=l (by omega);injection e with e;subst e;unfold Addr.add;split
  .rename_i g;subst g;exact E 0 u y
  .exact E j u y
theorem lD {ops:Array Oper}{rest:List Oper}(q:o.guard=none)(s x:Operand)(t:TypeId)
  (E:o.op= .call { callee:= .builtin .append,args:= #[s,x],argTypes:= #[t,t] })(base:Nat)(e:TypeId)(i:TypeInfo)(z:Value)(size bytes:Nat)(G:prog.underlying t=some (.slice e))(D:prog.info? e=some i)(I:i.zero=some z)
  (g:i.size=size)(p:i.bytes=bytes)(y:z.cells.size=size)(r:0<size)
  (v:Value)(n:Nat)(xs:List Value)(F:a.eval s=v)(j:w.ownsRow base e size v n xs)(fa:Option Addr)(m c:Nat)(d:List Value)(H:a.eval x= .slice fa m c)(hm:d.length=m*size)(k:b8 w B fa d)(h1:∀u∈d,u.oneCell'=true)
  (l:n+m<=maxLen)(b:(n+m)*bytes<=140737488355328)(f:base<=w.heap.size)
  (h:∀v' w',w'.ownsRow base e size v' (n+m) (xs++d)->w.grownBy w' v.ownBlock->wpList prog ops Q rest (a.put o.dst v') w'):wpList prog ops Q (o::rest) a w:=
 wpList_plain q fun _ hK=>oP s x t E base e i z size bytes G D I g p y r v n xs F j fa m c d H hm k h1 l b f fun v' w' A C=>hK _ _ (h v' w' A C)
theorem cq {ops:Array Oper}{K:Act->World->Prop}{E:Prop}(q:o.guard=none)(s x:Operand)(t:TypeId)
  (C:o.op= .call { callee:= .builtin .append,args:= #[s,x],argTypes:= #[t,t] })(base:Nat)(e:TypeId)(i:TypeInfo)(z:Value)(size bytes:Nat)(F:prog.underlying t=some (.slice e))(A:prog.info? e=some i)(H:i.zero=some z)
  (g:i.size=size)(p:i.bytes=bytes)(y:z.cells.size=size)(r:0<size)
  (v:Value)(n:Nat)(xs:List Value)(D:a.eval s=v)(j:w.ownsRow base e size v n xs)(fa:Option Addr)(m c:Nat)(d:List Value)(G:a.eval x= .slice fa m c)(hm:d.length=m*size)(k:b8 w B fa d)(h1:∀u∈d,u.oneCell'=true)
  (l:n+m<=maxLen)(b:(n+m)*bytes<=140737488355328)(f:base<=w.heap.size)
  (h:∀v' w',w'.ownsRow base e size v' (n+m) (xs++d)->w.grownBy w' v.ownBlock->K (a.put o.dst v') w'):
  if Region.wanted o (yielded ops a.tmps)=true then Oper.wp prog o a w K Q else E:=by
 have hw:Region.wanted o (yielded ops a.tmps)=true:=by simp[Region.wanted,q]
 rw[if_pos hw];exact oP s x t C base e i z size bytes F A H g p y r v n xs D j fa m c d G hm k h1 l b f h
theorem B9 (w:World)(s:ByteArray):b8 (w.alloc (.cells #[.string s] 9)) (w.heap.size+1) (some ⟨w.heap.size,0,none⟩) [.string s]:=fun _=>
 ⟨w.heap.size,0,rfl,lt_succ_self _,fun i u hu=>by rw[Nat.zero_add];exact Box.new w [.string s] 9 i u hu⟩
theorem ef (s:ByteArray):∀u∈[Value.string s],u.oneCell'=true:=fun u hu=>by
 obtain rfl:=mem_singleton.1 hu;rfl
def mV (s:ByteArray)(p j:Nat):List UInt8:=((bl s).drop p).take (j-p)
theorem rz (s:ByteArray)(j:Nat):mV s j j=[]:=by unfold mV;rw[Nat.sub_self];rfl
theorem AZ (hp:p<j)(a:j<=s.size):mV s p j≠[]:=fun e=>by
 have:=congrArg length e;unfold mV at this;rw[length_take,length_drop,b9]at this;simp at this;omega
theorem CU (s:ByteArray)(p j:Nat):bl (s.extract p j)=mV s p j:=by
 unfold mV bl;rw[ByteArray.data_extract,Array.toList_extract,extract_eq_take_drop]
theorem A3 (hp:p<=j)(a:j<s.size):mV s p (j+1)=mV s p j++[s[j]]:=by
 have h1:=dU s j a;unfold mV;rw[show j+1-p=(j-p)+1 by omega,take_add_one,getElem?_drop,show p+(j-p)=j by omega,h1];rfl
def jl (s:ByteArray)(j p:Nat)(a:List ByteArray):Prop:=
 p<=j/\a.length<=j/\((j<=s.size/\a.map bl++du ((bl s).drop j) (mV s p j)=cA (bl s))\/(j=s.size+1/\a.map bl=cA (bl s)))
theorem jl.stay {c:List ByteArray}(h:jl s j p c)(a:j<s.size)(d:s[j]≠32):jl s (j+1) p c:=by
 obtain⟨h1,f,⟨_,b⟩ |⟨b,_⟩⟩:=h
 .refine⟨by omega,by omega,.inl ⟨by omega,?_⟩⟩;have e:(bl s).drop j=s[j]::(bl s).drop (j+1):=by
   rw[drop_eq_getElem_cons (by rw[b9];exact a)];have:=dU s j a;rw[getElem?_eq_getElem (by rw[b9];exact a)]at this;rw[Option.some.inj this]
  rw[e,du,if_neg d,<-A3 h1 a]at b;exact b
 .omega
theorem jl.stop {d:List ByteArray}(h:jl s j p d)(l:j<=s.size)(i:∀h:j<s.size,s[j]=32):
  (p=j->jl s (j+1) (j+1) d)/\(p<j->jl s (j+1) (j+1) (d++[s.extract p j])):=by
 obtain⟨h1,n,⟨_,b⟩ |⟨b,_⟩⟩:=h
 .have g:∀cur,du ((bl s).drop j) cur=(if cur=[] then [] else [cur])++(if j<s.size then du ((bl s).drop (j+1)) [] else []):=fun cur=>by
   by_cases a:j<s.size
   .have k:(bl s).drop j=s[j]::(bl s).drop (j+1):=by
     rw[drop_eq_getElem_cons (by rw[b9];exact a)];have:=dU s j a;rw[getElem?_eq_getElem (by rw[b9];exact a)]at this;rw[Option.some.inj this]
    rw[k,du,if_pos (i a),if_pos a];split<;>rfl
   .rw[drop_of_length_le (by rw[b9];omega),du,if_neg a,append_nil]
  have c:∀f:List ByteArray,f.length<=j+1->f.map bl++(if j<s.size then du ((bl s).drop (j+1)) [] else [])=cA (bl s)->jl s (j+1) (j+1) f:=fun f m h=>by
   refine⟨bW,m,?_⟩;by_cases a:j<s.size
   .rw[if_pos a]at h;exact .inl ⟨a,by rw[rz];exact h⟩
   .rw[if_neg a,append_nil]at h;exact .inr ⟨by omega,h⟩
  rw[g]at b;refine⟨fun e=>?_,fun hp=>?_⟩
  .subst e;rw[rz,if_pos rfl,nil_append]at b;exact c d (by omega) b
  .rw[if_neg (AZ hp l)]at b;refine c _ (by rw[length_append];simp;omega) ?_;rw[map_append,append_assoc];show d.map bl++([bl (s.extract p j)]++_)=_;rw[CU];exact b
 .omega
set_option maxHeartbeats 4000000
theorem nO (s:ByteArray)(Y:s.size<=1000000)(w:World):Calls prog 15 #[.string s] w (tQ s w):=by
 obtain⟨i0,N,H,I,J⟩:=info_parts fP;go_enter func15,ntmps15;go_wp2_with fail;go_loopw [3,4,5] (fun v b i wr=>∃(j p:Nat) (c:List ByteArray) (A:Value),A=v/\b= .int .i64 p/\i= .int .i64 j/\wr.ownsRow w.heap.size 9 1 A c.length (strs c)/\Below w.heap.size w wr/\jl s j p c) (fun _ _ i _=>s.size+2-(intOf i).toNat);case atStart=>exact⟨0,0,[],_,rfl,rfl,rfl,ownsRow_nil _ _ _ _,bX,bW,bW,.inl ⟨zero_le _,by rw[rz];rfl⟩⟩
 case round=>
  obtain⟨j,p,c,A,rfl,rfl,rfl,d,f,l⟩:=hrel;have T:=l.1;have X:=l.2.1;by_cases O:j<=s.size;case neg=>
   have n:=bP (And.intro d (And.intro (show c.map bl=cA (bl s)from by
    obtain⟨_,_,⟨h,_⟩ |⟨_,h⟩⟩:=l
    .omega
    .exact h) f))
   have S:s.size<j:=by omega
   clear d f l;go_wp2_with fail;go_ret;exact⟨_,c,rfl,n.out.2.1,n.out.1,n.out.2.2⟩
  by_cases x:∃h:j<s.size,s[j]≠32
  .obtain⟨F,u⟩:=x;have d2:((s[j].toNat:Int) != 32)=true:=by
    simp only[bne_iff_ne,ne_eq];intro e;refine u (UInt8.toNat_inj.1 ?_);show s[j].toNat=32;omega
   have n:=bS d f (l.stay F u);clear d f l u;go_wp2_with fail;exact⟨⟨j+1,p,c,A,rfl,rfl,by go_num,n.out.1,n.out.2.1,n.out.2.2⟩,by simp[intOf];omega⟩
  have D:∀h:j<s.size,s[j]=32:=fun h=>Classical.byContradiction fun e=>x ⟨h,e⟩;obtain⟨y,z⟩:=l.stop O D;have o:=bT d f y z;have E:=f.size;have L:=bP D;clear x D y z d f l;have U:0<=(p:Int)/\(p:Int)<=(j:Int):=by omega
  have V:(j:Int)<=(s.size:Int):=by omega
  have C:(∃h:j<s.size,((s[j].toNat:Int) != 32)=false)\/s.size<=j:=by
   by_cases h:j<s.size
   .exact .inl ⟨h,by rw[L.out h];rfl⟩
   .exact .inr (by omega)
  obtain⟨t,P⟩:∃t,s.extract p j=t:=⟨_,rfl⟩;have q:∀{Q:Prop},(∀h:j<s.size,((s[j].toNat:Int) != 32)=false->Q)->(s.size<=j->Q)->Q:=fun h1 M=>C.elim (fun⟨a,b⟩=>h1 a b) M;clear C;by_cases G:p<j
  .refine q (fun g1 g2=>?_) (fun g1=>?_);all_goals (
    clear q;go_wp2_with (at_builtin;refine lD rfl _ _ 29 rfl w.heap.size 9 i0 _ 1 16 underlying29 N H I J rfl (by decide) _ _ _ rfl (o.out.1.alloc _) (some ⟨wr.heap.size,0,none⟩) 1 1 [.string t] rfl rfl (B9 _ _) (ef _) (by unfold maxLen;omega) (by omega) (by simp;omega) ?_);intro v' R g m;have B:Below w.heap.size w R:=(o.out.2.1.alloc E _).grown m (by simp;omega) (fun k hk=>(o.out.1.lt k hk).1);rw[show strs c++[.string t]=strs (c++[t]) by simp[strs],show c.length+1=(c++[t]).length by simp]at g;have r:=bS g B (show jl s (j+1) (j+1) (c++[t])from by rw[<-P];exact o.out.2.2.2 G);clear g B m;go_wp2_with fail;exact⟨⟨j+1,j+1,c++[t],_,rfl,by go_num,by go_num,r.out.1,r.out.2.1,r.out.2.2⟩,by simp[intOf];omega⟩)
  .obtain rfl:p=j:=by omega
   have r:=bP (o.out.2.2.1 rfl);refine q (fun g1 g2=>?_) (fun g1=>?_);all_goals (
    clear q;go_wp2_with fail;exact⟨⟨p+1,p+1,c,_,rfl,by go_num,by go_num,o.out.1,o.out.2.1,r.out⟩,by simp[intOf];omega⟩)
theorem wj (c:UInt8):kg c=true↔33<=c.toNat/\c.toNat<=126:=by
 unfold kg;rw[Bool.and_eq_true,decide_eq_true_iff,decide_eq_true_iff]
theorem wh:rA (bl s)=true↔∀j (h:j<s.size),kg s[j]=true:=by
 unfold rA;rw[all_eq_true];constructor
 .intro h j a;exact h _ (mem_of_getElem? (dU s j a))
 .intro h c d;obtain⟨j,a⟩:=getElem?_of_mem d;have b:j<s.size:=by have:=(List.getElem?_eq_some_iff.1 a).1;rwa [b9]at this
  rw[dU s j b]at a;rw[<-Option.some.inj a];exact h j b
theorem ou (s:ByteArray)(r:s.size<=1000000)(b:Nat)(_:b<=1000)(w:World):
  Calls prog 38 #[.string s,.int .i64 b] w fun e w'=>e= .returned (.bool (decide (eY s b)))/\w'=w:=by
 go_enter func38,ntmps38;go_wp2_with fail;go_loop [5] (fun i=>∃k:Nat,k<=s.size/\i= .int .i64 k/\∀j (h:j<s.size),j<k->kg s[j]=true) (fun i=>s.size-(intOf i).toNat);case atStart=>exact⟨0,zero_le _,rfl,fun j _ h=>by omega⟩
 case round=>
  obtain⟨k,hk,rfl,a⟩:=hrel;by_cases n:k<s.size
  .by_cases f:33<=s[k].toNat/\s[k].toNat<=126
   .have g:=bP (show∀j (h:j<s.size),j<k+1->kg s[j]=true from fun j h p=>by
     rcases Nat.lt_succ_iff_lt_or_eq.1 p with q |rfl
     .exact a j h q
     .exact(wj _).2 f)
    have d1:decide ((s[k].toNat:Int)<33)=false:=bY;have d2:decide ((126:Int)<(s[k].toNat:Int))=false:=bY;clear a f;go_wp2;exact⟨⟨k+1,by omega,by go_num,g.out⟩,by simp[intOf];omega⟩
   .have g:=bP (show¬eY s b from fun o=>f ((wj _).1 (wh.1 o.1 k n)));by_cases h1:s[k].toNat<33
    .have d1:decide ((s[k].toNat:Int)<33)=true:=bZ;clear a f h1;go_wp2;go_ret;exact⟨cj g.out,rfl⟩
    .have d1:decide ((s[k].toNat:Int)<33)=false:=bY;have d2:decide ((126:Int)<(s[k].toNat:Int))=true:=bZ;clear a f h1;go_wp2;go_ret;exact⟨cj g.out,rfl⟩
  .have d:rA (bl s)=true:=wh.2 (fun j h=>a j h (by omega));have l:=bP (show eY s b↔1<=s.size/\s.size<=b from⟨fun h=>h.2,fun h=>⟨d,h⟩⟩);clear a d;by_cases h1:1<=s.size
   .by_cases m:s.size<=b
    .have c:=bP (l.out.2 ⟨h1,m⟩);go_wp2;go_ret;exact⟨dP c.out,rfl⟩
    .have c:=bP (show¬eY s b from fun h=>m (l.out.1 h).2);go_wp2;go_ret;exact⟨cj c.out,rfl⟩
   .have c:=bP (show¬eY s b from fun h=>h1 (l.out.1 h).1);go_wp2;go_ret;exact⟨cj c.out,rfl⟩
theorem z8 {l:List Sht}(hk:k<l.length)(c:(l.take k).Nodup)(h:∀(j:Nat) (y:Sht),j<k->l[j]?=some y->y≠l[k]):(l.take (k+1)).Nodup:=by
 rw[take_succ_eq_append_getElem hk];refine nodup_append.2 ⟨c,by simp,fun y d z f e=>?_⟩;obtain rfl:=mem_singleton.1 f;obtain⟨j,b,a⟩:=getElem_of_mem d;rw[length_take]at b;rw[getElem_take]at a;exact h j y (by omega) (by rw[getElem?_eq_getElem (by omega),a]) e
theorem Dh {l:List Sht}(h:l.Nodup)(d:j<k){x:Sht}(c:l[j]?=some x)(hk:l[k]?=some x):False:=by
 obtain⟨h1,a⟩:=List.getElem?_eq_some_iff.1 c;obtain⟨e,b⟩:=List.getElem?_eq_some_iff.1 hk;have:=(getElem_inj h).1 (a.trans b.symm);omega
theorem qy (l:List Sht)(la:Option Addr)(lc:Nat)(aB:l.length<=1000)(Z:∀s∈l,s.lang.size<=1000/\s.short.size<=1000/\s.full.size<=1000)(w:World)(hl:c8 w w.heap.size 4 la (l.map Sht.cells)):
  Calls prog 17 #[.slice la l.length lc] w fun e w'=>e= .returned (.bool (decide (dS l)))/\∃q,w'=w.drewN q:=by
 have Hl:=bP hl;clear hl;go_enter func17,ntmps17;by_cases F:l.length<=100;case neg=>
  have c:=bP (show¬dS l from fun h=>F h.most);go_wp2;go_ret;exact⟨cj c.out,0,rfl⟩
 go_wp2_with fail;go_loopw [3] (fun i wr=>∃k:Nat,k<=l.length/\i= .int .i64 k/\(∀(a:Nat) r,a<k->l[a]?=some r->r.ok)/\(l.take k).Nodup/\∃q,wr=w.drewN q) (fun i _=>l.length-(intOf i).toNat);case atStart=>exact⟨0,zero_le _,rfl,by simp,by simp,0,rfl⟩
 case round=>
  obtain⟨k,hk,rfl,U,S,q,hq⟩:=hrel;have f:=bS U S hq;clear U S hq;by_cases H:k<l.length
  .obtain⟨b,off,rfl,hb,Y⟩:=Hl.out.a7 (by omega);have HC:=bP Y;have hx:=Y k H;obtain⟨x,A⟩:∃x,l[k]=x:=⟨_,rfl⟩;have I:l[k]?=some x:=by rw[getElem?_eq_getElem H,A]
   have J:x∈l:=mem_of_getElem? I;rw[A]at hx;have HX:=bP (fun(q:Nat)=>(show(w.drewN q).cell? ⟨b,off+k*4,none⟩=some (.string x.lang)/\(w.drewN q).cell? ⟨b,off+k*4+1,none⟩=some (.string x.short)/\(w.drewN q).cell? ⟨b,off+k*4+2,none⟩=some (.string x.full)/\(w.drewN q).cell? ⟨b,off+k*4+3,none⟩=some (.int .i64 x.cost)from hx));obtain⟨f1,f2,f3⟩:=Z x J;have Q:x.lang.size<=maxLen:=by unfold maxLen;omega
   have E:=bQ I A;have G:¬x.ok->¬dS l:=fun h hp=>h (hp.each x J);have g:=bP G;have n:=fL x.lang wr Q;have m:=ou x.short (by omega) 24 (by omega) wr;have d:=ou x.full (by omega) 24 (by omega) wr;obtain⟨k0,k1,k2,k3⟩:wr.cell? ⟨b,off+k*4,none⟩=some (.string x.lang)/\wr.cell? ⟨b,off+k*4+1,none⟩=some (.string x.short)/\wr.cell? ⟨b,off+k*4+2,none⟩=some (.string x.full)/\wr.cell? ⟨b,off+k*4+3,none⟩=some (.int .i64 x.cost):=by rw[f.out.2.2];exact HX.out q
   clear Y hx A I J G Q;by_cases B:df (bl x.lang)=true;case neg=>
    rw[eq_false_of_ne_true B]at n;have o:=bP n;have c:=bP (g.out (fun h=>B h.1));clear B n m d;go_wp2_with fail;refine o.out.mono ?_;rintro e O ⟨rfl,rfl⟩;go_wp2_with fail;go_ret;exact⟨cj c.out,q,f.out.2.2⟩
   rw[B]at n;have o:=bP n;have ag:=bP B;clear B n;by_cases C:eY x.short 24;case neg=>
    rw[decide_eq_false C]at m;have u:=bP m;have c:=bP (g.out (fun h=>C h.2.1));clear C m d;go_wp2_with fail;refine o.out.mono ?_;rintro e O ⟨rfl,rfl⟩;go_wp2_with fail;refine u.out.mono ?_;rintro e O ⟨rfl,rfl⟩;go_wp2_with fail;go_ret;exact⟨cj c.out,q,f.out.2.2⟩
   rw[decide_eq_true C]at m;have u:=bP m;have ah:=bP C;clear C m;go_wp2_with fail;refine o.out.mono ?_;rintro e O ⟨rfl,rfl⟩;go_wp2_with fail;refine u.out.mono ?_;rintro e w2 ⟨rfl,rfl⟩;clear o u;by_cases D:eY x.full 24;case neg=>
    rw[decide_eq_false D]at d;have v:=bP d;have c:=bP (g.out (fun h=>D h.2.2.1));clear D d;go_wp2_with fail;refine v.out.mono ?_;rintro e O ⟨rfl,rfl⟩;go_wp2_with fail;go_ret;exact⟨cj c.out,q,f.out.2.2⟩
   rw[decide_eq_true D]at d;have v:=bP d;have ai:=bP D;clear D d;go_wp2_with fail;refine v.out.mono ?_;rintro e w3 ⟨rfl,rfl⟩;clear v;by_cases p4:0<=x.cost;case neg=>
    have d4:decide (x.cost<0)=true:=bZ;have c:=bP (g.out (fun h=>p4 h.2.2.2.1));clear p4;go_wp2_with fail;go_ret;exact⟨cj c.out,q,f.out.2.2⟩
   by_cases p5:x.cost<=1000;case neg=>
    have d5:decide ((1000:Int)<x.cost)=true:=bZ;have c:=bP (g.out (fun h=>p5 h.2.2.2.2));clear p5;go_wp2_with fail;go_ret;exact⟨cj c.out,q,f.out.2.2⟩
   have X:=bP (show x.ok from⟨ag.out,ah.out,ai.out,p4,p5⟩);go_wp2_with fail;clear k0 k1 k2 k3;obtain⟨wo,rfl⟩:∃wo:World,wo=w3:=⟨_,rfl⟩;go_loopw [4] (fun i wx=>∃j:Nat,j<=k/\i= .int .i64 j/\(∀(a:Nat) (y:Sht),a<j->l[a]?=some y->y≠x)/\∃q,wx=w.drewN q) (fun i _=>k-(intOf i).toNat);case atStart=>exact⟨0,zero_le _,rfl,fun a y h=>by omega,q,f.out.2.2⟩
   case round=>
    obtain⟨j,hj,rfl,T,q2,V⟩:=hrel;have t:=bQ T V;clear T V;by_cases ak:j<k
    .have R:j<l.length:=by omega
     have L:=HC.out j R;obtain⟨y,M⟩:∃y,l[j]=y:=⟨_,rfl⟩;have P:=bP (show l[j]?=some y by rw[getElem?_eq_getElem R,M]);rw[M]at L;obtain⟨m0,m1,m2,m3⟩:wr.cell? ⟨b,off+j*4,none⟩=some (.string y.lang)/\wr.cell? ⟨b,off+j*4+1,none⟩=some (.string y.short)/\wr.cell? ⟨b,off+j*4+2,none⟩=some (.string y.full)/\wr.cell? ⟨b,off+j*4+3,none⟩=some (.int .i64 y.cost):=by rw[t.out.2];exact L
     obtain⟨k0,k1,k2,k3⟩:wr.cell? ⟨b,off+k*4,none⟩=some (.string x.lang)/\wr.cell? ⟨b,off+k*4+1,none⟩=some (.string x.short)/\wr.cell? ⟨b,off+k*4+2,none⟩=some (.string x.full)/\wr.cell? ⟨b,off+k*4+3,none⟩=some (.int .i64 x.cost):=by rw[t.out.2];exact HX.out q2
     clear L M;have heq:=fun W=>yM y x W;by_cases he:y=x
     .rw[decide_eq_true he]at heq;have c:=bP (show¬dS l from fun h=>Dh h.once ak P.out (by rw[E.out.1,he]));clear he;go_wp2_with fail;go_quiet (fail);go_wp2_with fail;go_ret;exact⟨cj c.out,_,by rw[t.out.2,drewN_drewN]⟩
     .rw[decide_eq_false he]at heq;have N:=bP (show∀(a:Nat) (z:Sht),a<j+1->l[a]?=some z->z≠x from fun a z p hz=>by
       rcases Nat.lt_succ_iff_lt_or_eq.1 p with h |rfl
       .exact t.out.1 a z h hz
       .rw[P.out]at hz;rw[<-Option.some.inj hz];exact he)
      clear he;go_wp2_with fail;go_quiet (fail);go_wp2_with fail;exact⟨⟨j+1,by omega,by go_num,N.out,_,by rw[t.out.2,drewN_drewN]⟩,by simp[intOf];omega⟩
    .obtain rfl:j=k:=by omega
     have N:=bP (show(∀(a:Nat) r,a<j+1->l[a]?=some r->r.ok)/\(l.take (j+1)).Nodup from by
      refine⟨fun a r p hr=>?_,z8 H f.out.2.1 (fun a y p L=>by rw[E.out.2];exact t.out.1 a y p L)⟩;rcases Nat.lt_succ_iff_lt_or_eq.1 p with h |rfl
      .exact f.out.1 a r h hr
      .rw[E.out.1]at hr;rw[<-Option.some.inj hr];exact X.out)
     go_wp2_with fail;exact⟨⟨j+1,by omega,by go_num,N.out.1,N.out.2,q2,t.out.2⟩,by simp[intOf];omega⟩
  .obtain rfl:k=l.length:=by omega
   have HY:=bP (show dS l from⟨F,fun s hs=>by
    obtain⟨a,p⟩:=getElem?_of_mem hs;exact f.out.1 a s (List.getElem?_eq_some_iff.1 p).1 p,by have:=f.out.2.1;rwa [take_length]at this⟩)
   go_wp2;go_ret;exact⟨dP HY.out,q,f.out.2.2⟩
theorem xr (w:World)(a b:Value)(t:TypeId):(w.alloc (.cells #[a,b] t)).ownsRow w.heap.size t 2 (.slice (some ⟨w.heap.size,0,none⟩) 1 1) 1 [a,b]:=by
 refine⟨by simp,.inr ⟨w.heap.size,1,#[a,b],rfl,bW,heap_alloc_new w _,bW,by unfold maxLen;omega,?_,?_⟩⟩<;>simp
theorem zG {c:Int}(d:0<=c)(h1:c<128):Utf8.encode c=⟨#[c.toNat.toUInt8]⟩:=by
 obtain⟨n,rfl⟩:∃n:Nat,c=(n:Int):=⟨c.toNat,by omega⟩;have a:n<128:=by omega
 have b:Utf8.valid (n:Int)=true:=by
  unfold Utf8.valid;simp;omega
 unfold Utf8.encode;simp only[b,if_true,toNat_natCast];rw[if_pos a]
theorem j4 (s:ByteArray)(c:Int)(i:s.size<=1000000)(d:0<=c)(h1:c<128)(w:World):
  Calls prog 110 #[.string s,.int .i64 c] w fun e w'=>e= .returned (.string (dM s c))/\w'=w:=by
 go_enter func110,ntmps110;by_cases a:c=0
 .subst a;go_wp2;go_ret;exact⟨by simp[dM],rfl⟩
 .have d1:(c==0)=false:=by simpa using a
  have b:=bP a;have g:IntKind.i32.wrap c=c:=by
   unfold IntKind.wrap;simp[IntKind.bits,IntKind.signed];omega
  have he:=zG d h1;have f:∀W,(Op.stringOp .add s ⟨#[c.toNat.toUInt8]⟩).run prog W= .ok (.string (s++⟨#[c.toNat.toUInt8]⟩)) W:=fun W=>run_string_add_sum W _ _ (by show s.size+1<=_;omega);clear a;go_wp2;go_ret;exact⟨by simp[dM,b.out],rfl⟩
def Plc.cells (x:Plc):List Value:=[.int .i64 x.st,.string x.tx]
theorem Ey (x y:Plc)(w:World):(binOp .eql 169 (.agg #[.int .i64 x.st,.string x.tx]) (.agg #[.int .i64 y.st,.string y.tx])).run prog w= .ok (.bool (decide (x=y))) w:=by
 have f:prog.underlying 169=some (.struct (prog.fieldsOf 169)):=by kernel_rfl
 have hp:prog.stoodInHeld 169=false:=by kernel_rfl
 rw[run_eql_struct,show(10000:Nat)=9999+1 from rfl,run_equalIn_agg w 9999 169 _ _ f hp];simp only[Program.fieldsOf,underlying169];go_simp;have g:∀a b:ByteArray,a.toList=b.toList↔a=b:=fun a b=>by
  rw[ByteArray.toList_eq,ByteArray.toList_eq];exact⟨fun h=>cY h,fun h=>by rw[h]⟩
 obtain⟨a,b⟩:=x;obtain⟨c,d⟩:=y;simp only[Plc.mk.injEq];simp only[g];by_cases h1:a=c<;>by_cases e:b=d<;>simp[h1,e]
theorem c8.bJ {a:Option Addr}{l:List Plc}(h:c8 w B 2 a (l.map Plc.cells))(j:0<l.length):
  ∃b off,a=some ⟨b,off,none⟩/\b<B/\∀i (d:i<l.length),w.cell? ⟨b,off+i*2,none⟩=some (.int .i64 l[i].st)/\w.cell? ⟨b,off+i*2+1,none⟩=some (.string l[i].tx):=by
 obtain⟨b,off,e,f,g⟩:=h (by simpa using j);refine⟨b,off,e,f,fun i d=>?_⟩;have c:=g i l[i].cells (by simp[d]);exact⟨c 0 _ rfl,c 1 _ rfl⟩
theorem xB (l:List Plc)(x:Plc)(D:Option Addr)(lc:Nat)(G:l.length<=100000000)(w:World)(h:c8 w w.heap.size 2 D (l.map Plc.cells)):
  Calls prog 111 #[.slice D l.length lc,.agg #[.int .i64 x.st,.string x.tx]] w fun e w'=>e= .returned (.bool (decide (x∈l)))/\Below w.heap.size w w':=by
 go_enter func111,ntmps111;go_upto_region 1 with (fail);generalize d:(w.alloc _)=u;have c:Below w.heap.size w u:=by rw[<-d];exact bX.alloc bW _
 have o:Box u w.heap.size x.cells:=by rw[<-d];exact Box.new w x.cells 169
 have g:=bS c o.c2 ((h.below c bW).more c.size);clear d c o h;go_wp2_with fail;go_loopw [5] (fun i wr=>∃k:Nat,k<=l.length/\i= .int .i64 k/\(∀(j:Nat) y,j<k->l[j]?=some y->y≠x)/\∃q,wr=u.drewN q) (fun i _=>l.length-(intOf i).toNat);case atStart=>exact⟨0,zero_le _,rfl,fun j y h=>by omega,0,rfl⟩
 case round=>
  obtain⟨k,hk,rfl,s,q,C⟩:=hrel;have a:=bQ s C;clear s C;by_cases p:k<l.length
  .obtain⟨b,off,rfl,F,B⟩:=g.out.2.2.bJ (by omega);have v:=B k p;obtain⟨y,f⟩:∃y,l[k]=y:=⟨_,rfl⟩;have r:l[k]?=some y:=by rw[getElem?_eq_getElem p,f]
   rw[f]at v;obtain⟨m0,m1⟩:wr.cell? ⟨b,off+k*2,none⟩=some (.int .i64 y.st)/\wr.cell? ⟨b,off+k*2+1,none⟩=some (.string y.tx):=by rw[a.out.2];exact v
   obtain⟨k0,k1⟩:wr.cell? ⟨w.heap.size,0,none⟩=some (.int .i64 x.st)/\wr.cell? ⟨w.heap.size,1,none⟩=some (.string x.tx):=by rw[a.out.2];exact g.out.2.1
   have heq:=fun W=>Ey y x W;have n:=bP r;clear B v f r;by_cases he:y=x
   .rw[decide_eq_true he]at heq;have E:=bP (show x∈l from by rw[<-he];exact mem_of_getElem? n.out);clear he;go_wp2_with fail;go_quiet (fail);go_wp2_with fail;go_ret;exact⟨dP E.out,by rw[a.out.2,drewN_drewN];exact Go.below_drewN g.out.1 _⟩
   .rw[decide_eq_false he]at heq;have t:=bP (show∀(j:Nat) z,j<k+1->l[j]?=some z->z≠x from fun j z m A=>by
     rcases Nat.lt_succ_iff_lt_or_eq.1 m with h |rfl
     .exact a.out.1 j z h A
     .rw[n.out]at A;rw[<-Option.some.inj A];exact he)
    clear he;go_wp2_with fail;go_quiet (fail);go_wp2_with fail;exact⟨⟨k+1,by omega,by go_num,t.out,_,by rw[a.out.2,drewN_drewN]⟩,by simp[intOf];omega⟩
  .obtain rfl:k=l.length:=by omega
   have t:=bP (show¬x∈l from fun hm=>by
    obtain⟨j,m⟩:=getElem?_of_mem hm;exact a.out.1 j x (List.getElem?_eq_some_iff.1 m).1 m rfl)
   go_wp2_with fail;go_ret;exact⟨cj t.out,by rw[a.out.2];exact Go.below_drewN g.out.1 _⟩
def DD (l:List ByteArray)(t:ByteArray)(err:Int):Prop:=(l=[]/\t=⟨#[]⟩/\err=10)\/(1<l.length/\t=⟨#[]⟩/\err=8)\/(l=[t]/\err=0)
theorem BZ (l:List ByteArray)(f:Option Addr)(lc:Nat)(c:l.length<=100000000)(w:World)(h:b8 w w.heap.size f (strs l)):
  Calls prog 65 #[.slice f l.length lc] w fun e w'=>(∃t err,e= .returned (.tuple #[.string t,.int .i64 err])/\DD l t err)/\w'=w:=by
 go_enter func65,ntmps65;match l,c,h with
 |[],_,_=>
  go_wp2;go_ret2;exact⟨⟨_,_,rfl,.inl ⟨rfl,rfl,rfl⟩⟩,rfl⟩
 |[t],_,h=>
  obtain⟨b,off,rfl,i,d⟩:=h.strs (by simp);have k0:=d 0 (by simp);simp only[getElem_cons_zero,Nat.add_zero]at k0;clear h d;go_wp2;go_ret2;exact⟨⟨_,_,rfl,.inr (.inr ⟨rfl,rfl⟩)⟩,rfl⟩
 |t::u::r,c,_=>
  obtain⟨n,a⟩:∃n,(t::u::r).length=n:=⟨_,rfl⟩;have h1:1<n:=by rw[<-a];simp
  rw[a]at c⊢;have g:=bP a;clear a;have d0:((n:Int)==0)=false:=by simp;omega
  go_wp2;go_ret2;exact⟨⟨_,_,rfl,.inr (.inl ⟨by rw[g.out];exact h1,rfl,rfl⟩)⟩,rfl⟩
end
end Go.Proofs.YtmhdgddjeadjjaaGreatDoor
