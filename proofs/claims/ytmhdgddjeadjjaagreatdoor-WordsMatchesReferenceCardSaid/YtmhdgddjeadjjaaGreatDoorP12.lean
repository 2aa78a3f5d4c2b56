/- K4 -/
import Derived.Test.YtmhdgddjeadjjaaGreatDoorP10
namespace Go.Proofs.YtmhdgddjeadjjaaGreatDoor
open _root_.List Go.Lib _root_.Nat Go.World _root_.Int Go.Proofs.Tryz
variable {k:Nat}{M:cu}
section
open Go.RowKit Classical
theorem iW (z n:Int)(b:Nat)(w:World)(a:cD n z)(h:w.cell? ⟨b,0,none⟩=some (.int .i64 n)):
  Calls prog 160 #[.int .i64 z,.pointer (some ⟨b,0,none⟩)] w fun e w'=>e= .returned (.bool true)/\w'=w:=by
 have:=uH z n b w h;rwa [decide_eq_true a]at this
theorem oD (z n:Int)(b:Nat)(w:World)(a:¬cD n z)(h:w.cell? ⟨b,0,none⟩=some (.int .i64 n)):
  Calls prog 160 #[.int .i64 z,.pointer (some ⟨b,0,none⟩)] w fun e w'=>e= .returned (.bool false)/\w'=w:=by
 have:=uH z n b w h;rwa [decide_eq_false a]at this
theorem oE (z:Int)(w:World)(a:dD z):Calls prog 161 #[.int .i64 z] w fun e w'=>e= .returned (.bool true)/\w'=w:=by
 have:=sY z w;rwa [decide_eq_true a]at this
theorem uJ (z:Int)(w:World)(a:¬dD z):Calls prog 161 #[.int .i64 z] w fun e w'=>e= .returned (.bool false)/\w'=w:=by
 have:=sY z w;rwa [decide_eq_false a]at this
theorem uu {α:Type}{R:α->α->Prop}(n:∀a b c,R a b->R b c->R a c){l:List α}{x:α}(m:l[k]?=some x)(h:(l.take k).Pairwise R)(hp:∀y,0<k->l[k-1]?=some y->R y x):(l.take (k+1)).Pairwise R:=by
 rw[take_add_one,m];refine pairwise_append.2 ⟨h,pairwise_singleton _ _,fun a o b p=>?_⟩;obtain rfl:b=x:=by simpa using p
 obtain⟨i,d⟩:=mem_iff_getElem?.1 o;rw[getElem?_take]at d;split at d
 .rename_i q;have r:k<l.length:=(List.getElem?_eq_some_iff.1 m).1;have f:=hp l[k-1] (by omega) (getElem?_eq_getElem (by omega));rcases Nat.lt_or_ge i (k-1)with h1 |h1
  .have g:i<(l.take k).length:=by rw[length_take];omega
   have j:k-1<(l.take k).length:=by rw[length_take];omega
   have:=pairwise_iff_getElem.1 h i (k-1) g j h1;rw[getElem_take,getElem_take]at this;have e:l[i]=a:=by rw[getElem?_eq_getElem (by omega)]at d;exact Option.some.inj d
   rw[e]at this;exact n _ _ _ this f
  .have e:i=k-1:=by omega
   subst e;rw[getElem?_eq_getElem (by omega)]at d;obtain rfl:=Option.some.inj d;exact f
 .cases d
theorem mS {α:Type}{R:α->α->Prop}{l:List α}{x y:α}(h:l.Pairwise R)(f:0<k)(d:l[k]?=some x)(e:l[k-1]?=some y):R y x:=by
 obtain⟨h1,a⟩:=List.getElem?_eq_some_iff.1 d;obtain⟨c,b⟩:=List.getElem?_eq_some_iff.1 e;have:=pairwise_iff_getElem.1 h (k-1) k c h1 (by omega);rwa [a,b]at this
def gJ (M:cu)(k:Nat):Prop:=(∀j s,j<k->M.final[j]?=some s->cD M.ag s)/\(M.final.take k).Pairwise (·<·)
def gH (M:cu)(k:Nat):Prop:=(∀j a,j<k->M.arcs[j]?=some a->cD M.ag a.frm/\cD M.ag a.to/\dD a.inp/\dD a.out)/\(M.arcs.take k).Pairwise Arc.lt
theorem gJ.zero (M:cu):gJ M 0:=⟨fun j s a=>absurd a (not_lt_zero _),by simp⟩
theorem gH.zero (M:cu):gH M 0:=⟨fun j s a=>absurd a (not_lt_zero _),by simp⟩
theorem gJ.snoc {x:Int}(h:gJ M k)(f:M.final[k]?=some x)(i:cD M.ag x)(hp:∀y,0<k->M.final[k-1]?=some y->y<x):gJ M (k+1):=by
 refine⟨fun j s d e=>?_,uu (R:=fun a b:Int=>a<b) (fun a b c h1 g=>Int.lt_trans h1 g) f h.2 hp⟩;rcases Nat.lt_succ_iff_lt_or_eq.1 d with d |rfl
 .exact h.1 j s d e
 .rw[f]at e;cases e;exact i
theorem gH.snoc {x:Arc}(h:gH M k)(f:M.arcs[k]?=some x)(i:cD M.ag x.frm/\cD M.ag x.to/\dD x.inp/\dD x.out)(hp:∀y,0<k->M.arcs[k-1]?=some y->y.lt x):gH M (k+1):=by
 refine⟨fun j s d e=>?_,uu (R:=Arc.lt) (fun a b c h1 g=>Arc.lt_trans h1 g) f h.2 hp⟩;rcases Nat.lt_succ_iff_lt_or_eq.1 d with d |rfl
 .exact h.1 j s d e
 .rw[f]at e;cases e;exact i
theorem gJ.all (h:gJ M M.final.length):(∀s∈M.final,cD M.ag s)/\M.final.Pairwise (·<·):=
 ⟨fun s b=>by
  obtain⟨j,a⟩:=mem_iff_getElem?.1 b;exact h.1 j s (List.getElem?_eq_some_iff.1 a).1 a,by have:=h.2;rwa [take_length]at this⟩
theorem gH.all (h:gH M M.arcs.length):(∀a∈M.arcs,cD M.ag a.frm/\cD M.ag a.to/\dD a.inp/\dD a.out)/\cR M.arcs:=
 ⟨fun s c=>by
  obtain⟨j,b⟩:=mem_iff_getElem?.1 c;exact h.1 j s (List.getElem?_eq_some_iff.1 b).1 b,by have:=h.2;rwa [take_length]at this⟩
set_option maxRecDepth 100000
set_option maxHeartbeats 4000000
theorem zi (M:cu)(v:Value)(w:World)(h:dx w w.heap.size v M):
  Calls prog 95 #[v] w fun e w'=>e= .returned (.bool (decide (cN M)))/\Below w.heap.size w w':=by
 obtain⟨fa,fc,aa,ac,rfl,ao,aI,hf,ha⟩:=h;have aX:=ao;unfold maxLen at ao aI;obtain⟨g,P⟩:∃g:World,g=w.alloc (.cells #[.int .i64 M.ag,.int .i64 M.start,.slice fa M.final.length fc,.slice aa M.arcs.length ac] 98):=⟨_,rfl⟩;have G:Below w.heap.size w g:=by rw[P];exact bX.alloc bW _
 have D:Blk g w.heap.size #[.int .i64 M.ag,.int .i64 M.start,.slice fa M.final.length fc,.slice aa M.arcs.length ac] 98:=by rw[P];exact Blk.new _ _ _
 have H:=D.lt;have HM:=bP (fun(wr:World) (a:Below g.heap.size g wr)=>(show wr.cell? ⟨w.heap.size,0,none⟩=some (.int .i64 M.ag)/\wr.cell? ⟨w.heap.size,1,none⟩=some (.int .i64 M.start)/\wr.cell? ⟨w.heap.size,2,none⟩=some (.slice fa M.final.length fc)/\wr.cell? ⟨w.heap.size,3,none⟩=some (.slice aa M.arcs.length ac)from
  ⟨(D.below a H).cell 0,(D.below a H).cell 1,(D.below a H).cell 2,(D.below a H).cell 3⟩))
 have HF:=bP (fun(wr:World) (a:Below g.heap.size g wr) (k:Nat) (hk:k<M.final.length)=>by
  obtain⟨b,off,e,U,V⟩:=hf.nums (by omega);exact(⟨b,off,e,((G.trans (a.mono G.size)).cell (p:=⟨b,off+k,none⟩) U).trans (V k hk)⟩:∃b off,fa=some ⟨b,off,none⟩/\wr.cell? ⟨b,off+k,none⟩=some (.int .i64 M.final[k])))
 have HA:=bP (fun(wr:World) (a:Below g.heap.size g wr) (k:Nat) (hk:k<M.arcs.length)=>by
  obtain⟨b,off,e,U,V⟩:=ha.arcs (by omega);have s:=G.trans (a.mono G.size);exact(⟨b,off,e,(s.cell (p:=⟨b,off+k*4,none⟩) U).trans (V k hk).1,(s.cell (p:=⟨b,off+k*4+1,none⟩) U).trans (V k hk).2.1,
   (s.cell (p:=⟨b,off+k*4+2,none⟩) U).trans (V k hk).2.2.1,(s.cell (p:=⟨b,off+k*4+3,none⟩) U).trans (V k hk).2.2.2⟩:
   ∃b off,aa=some ⟨b,off,none⟩/\wr.cell? ⟨b,off+k*4,none⟩=some (.int .i64 M.arcs[k].frm)/\wr.cell? ⟨b,off+k*4+1,none⟩=some (.int .i64 M.arcs[k].inp)/\wr.cell? ⟨b,off+k*4+2,none⟩=some (.int .i64 M.arcs[k].out)/\wr.cell? ⟨b,off+k*4+3,none⟩=some (.int .i64 M.arcs[k].to)))
 have f:=bQ P G;obtain⟨m0,m1,m2,m3⟩:=HM.out g bX;clear P G D hf ha;go_enter func95,ntmps95;go_upto_region 3 with (fail);rw[<-f.out.1];by_cases h1:M.ag<1
 .have d1:decide (M.ag<1)=true:=decide_eq_true h1;have c:=bP (show¬cN M from fun h=>by have:=h.one;omega);go_wp2;go_ret;exact⟨cj c.out,f.out.2⟩
 .have d1:decide (M.ag<1)=false:=decide_eq_false h1;by_cases h2:4000<M.ag
  .have d2:decide (4000<M.ag)=true:=decide_eq_true h2;have c:=bP (show¬cN M from fun h=>by have:=h.most;omega);go_wp2;go_ret;exact⟨cj c.out,f.out.2⟩
  .have d2:decide (4000<M.ag)=false:=decide_eq_false h2;by_cases T:cD M.ag M.start
   .have q3:=iW M.start M.ag w.heap.size g T m0;have q:=bP q3;have H3:=bP T;clear q3 T;by_cases h4:20000<M.arcs.length
    .have d4:decide ((20000:Int)<(M.arcs.length:Int))=true:=bZ;have c:=bP (show¬cN M from fun h=>by have:=h.an;omega);go_wp2_with (go_at_call 160;refine q.out.mono ?_;rintro e w' ⟨rfl,rfl⟩);go_ret;exact⟨cj c.out,f.out.2⟩
    .have d4:decide ((20000:Int)<(M.arcs.length:Int))=false:=bY;have H4:=bP h4;clear h4;go_wp2_with (go_at_call 160;refine q.out.mono ?_;rintro e w' ⟨rfl,d⟩;have d:=d.symm;subst d);clear q d1 d2 d4 m0 m1 m2 m3;go_loopw [34] (fun i wr=>∃k:Nat,i= .int .i64 k/\k<=M.final.length/\gJ M k/\Below g.heap.size g wr) (fun i _=>M.final.length-(intOf i).toNat);case atStart=>exact⟨0,rfl,zero_le _,gJ.zero M,bX⟩
     case round=>
      obtain⟨k,rfl,aL,hP,a⟩:=hrel;have B:=bP hP;clear hP;obtain⟨m0,m1,m2,m3⟩:=HM.out wr a;have F:=f.out.2.trans (a.mono f.out.2.size);by_cases hk:k<M.final.length
      .obtain⟨b,off,rfl,x0⟩:=HF.out wr a k hk;obtain⟨x,t⟩:∃x,x=M.final[k]:=⟨_,rfl⟩;rw[<-t]at x0;have j:=bP (show M.final[k]?=some x by rw[t];exact getElem?_eq_getElem hk);clear t;by_cases s:cD M.ag x
       .have Hx:=bP s;have q:=bP (iW x M.ag w.heap.size wr s m0);clear s;rcases eq_zero_or_pos k with l |l
        .have d0:decide (0<k)=false:=bY;have Z:=bP l;clear l;go_wp2_with (go_at_call 160;refine q.out.mono ?_;rintro e w' ⟨rfl,d⟩;have d:=d.symm;subst d);exact⟨⟨k+1,by go_num,by omega,B.out.snoc j.out Hx.out (fun y h0=>absurd Z.out (by omega)),a⟩,by simp[intOf];omega⟩
        .obtain⟨b',aB,e',y0⟩:=HF.out wr a (k-1) (by omega);cases e'
         obtain⟨y,A⟩:∃y,y=M.final[k-1]:=⟨_,rfl⟩;rw[<-A]at y0;have C:=bP (show M.final[k-1]?=some y by rw[A];exact getElem?_eq_getElem (by omega));clear A;obtain⟨p,rfl⟩:∃p,k=p+1:=⟨k-1,by omega⟩;have d0:decide ((0:Int)<(p:Int)+1)=true:=bZ;have aw:IntKind.i64.wrap (p:Int)=p:=IntWalk.i64_in _ (by omega);have aM:p<M.final.length:=by omega
         simp only[Nat.add_sub_cancel]at y0;by_cases ax:x<=y
         .have d5:decide (x<=y)=true:=decide_eq_true ax;have c:=bP (show¬cN M from fun h=>by
           have:=mS h.inc l j.out C.out;omega)
          go_wp2_with (go_at_call 160;refine q.out.mono ?_;rintro e w' ⟨rfl,d⟩;have d:=d.symm;subst d);go_ret;exact⟨cj c.out,F⟩
         .have d5:decide (x<=y)=false:=decide_eq_false ax;go_wp2_with (go_at_call 160;refine q.out.mono ?_;rintro e w' ⟨rfl,d⟩;have d:=d.symm;subst d);refine⟨⟨p+1+1,by go_num,by omega,B.out.snoc j.out Hx.out (fun z h0 hz=>?_),a⟩,by simp[intOf];omega⟩;rw[C.out]at hz;cases hz;omega
       .have q:=bP (oD x M.ag w.heap.size wr s m0);have c:=bP (show¬cN M from fun h=>s (h.final x (mem_of_getElem? j.out)));clear s;go_wp2_with (go_at_call 160;refine q.out.mono ?_;rintro e w' ⟨rfl,d⟩;have d:=d.symm;subst d);go_ret;exact⟨cj c.out,F⟩
      .obtain rfl:k=M.final.length:=by omega
       have X:=bP B.out.all;clear B;go_wp2_with fail;obtain⟨I,rfl⟩:∃I:World,I=wr:=⟨_,rfl⟩;go_loopw [61] (fun i wr=>∃k:Nat,i= .int .i64 k/\k<=M.arcs.length/\gH M k/\Below g.heap.size g wr) (fun i _=>M.arcs.length-(intOf i).toNat);case atStart=>exact⟨0,rfl,zero_le _,gH.zero M,a⟩
       case round=>
        clear a F m0 m1 m2 m3;obtain⟨k,rfl,aL,hP,a⟩:=hrel;have B:=bP hP;clear hP;obtain⟨m0,m1,m2,m3⟩:=HM.out wr a;have F:=f.out.2.trans (a.mono f.out.2.size);by_cases hk:k<M.arcs.length
        .obtain⟨b,off,rfl,x0,x1,x2,x3⟩:=HA.out wr a k hk;obtain⟨x,t⟩:∃x,x=M.arcs[k]:=⟨_,rfl⟩;rw[<-t]at x0 x1 x2 x3;have j:=bP (show M.arcs[k]?=some x by rw[t];exact getElem?_eq_getElem hk);clear t;obtain⟨I,rfl⟩:∃I:World,I=wr:=⟨_,rfl⟩;go_upto_region 14 with (fail);obtain⟨J,Q⟩:∃J:World,J=I.alloc (.cells #[.int .i64 x.frm,.int .i64 x.inp,.int .i64 x.out,.int .i64 x.to] 171):=⟨_,rfl⟩;rw[<-Q];have E:Below I.heap.size I J:=by rw[Q];exact bX.alloc bW _
         have L:Blk J I.heap.size #[.int .i64 x.frm,.int .i64 x.inp,.int .i64 x.out,.int .i64 x.to] 171:=by rw[Q];exact Blk.new _ _ _
         have o:=a.trans (E.mono a.size);clear Q x0 x1 x2 x3 m0 m1 m2 m3;obtain⟨m0,m1,m2,m3⟩:=HM.out J o;have a0:=L.cell 0;have a1:=L.cell 1;have a2:=L.cell 2;have a3:=L.cell 3;simp only[getElem?_toArray,getElem?_cons_zero,getElem?_cons_succ]at a0 a1 a2 a3;have r:=f.out.2.trans (o.mono f.out.2.size);clear L E a F;have aq:=mem_of_getElem? j.out;have O:=bP aq;clear aq;by_cases p1:cD M.ag x.frm
         .by_cases p2:cD M.ag x.to
          .by_cases p3:dD x.inp
           .by_cases p4:dD x.out
            .have af:=bP (show cD M.ag x.frm/\cD M.ag x.to/\dD x.inp/\dD x.out from⟨p1,p2,p3,p4⟩);rcases eq_zero_or_pos k with l |l
             .have d0:decide (0<k)=false:=bY;have Z:=bP l;clear l;go_quiet ((first |(go_at_call 160;exact Calls.quiet_of_same (iW _ _ _ _ (by assumption) (by assumption))) |(go_at_call 161;exact Calls.quiet_of_same (oE _ _ (by assumption)))));go_wp2;exact⟨⟨k+1,by go_num,by omega,B.out.snoc j.out af.out (fun y h0=>absurd Z.out (by omega)),Go.below_drewN o _⟩,by simp[intOf];omega⟩
             .obtain⟨b',aB,e',y0,y1,y2,y3⟩:=HA.out J o (k-1) (by omega);cases e'
              obtain⟨y,A⟩:∃y,y=M.arcs[k-1]:=⟨_,rfl⟩;rw[<-A]at y0 y1 y2 y3;have C:=bP (show M.arcs[k-1]?=some y by rw[A];exact getElem?_eq_getElem (by omega));clear A;obtain⟨p,rfl⟩:∃p,k=p+1:=⟨k-1,by omega⟩;have d0:decide ((0:Int)<(p:Int)+1)=true:=bZ;have aw:IntKind.i64.wrap (p:Int)=p:=IntWalk.i64_in _ (by omega);have aM:p<M.arcs.length:=by omega
              simp only[Nat.add_sub_cancel]at y0 y1 y2 y3;have ar:Small x:=oC h2 af.out;refine wp_region_still_tail 37 (by kernel_rfl) (by kernel_rfl) ?_;simp only[take_succ_cons,take_zero,drop_succ_cons,drop_zero];repeat (first |still_step |still_call (iW _ _ _ _ (by assumption) (by assumption)) |still_call (oE _ _ (by assumption)))
              refine wpStill_nil ?_;change wpList _ _ _ _ _ J.drew;clear aw y0 y1 y2 y3 a0 a1 a2 a3 m0 m1 m2 m3;obtain⟨wk,ah⟩:∃wk,J.drew=wk:=⟨_,rfl⟩;have R:Below g.heap.size g wk:=by rw[<-ah];exact o.drew
              rw[ah];clear ah o r;have au:Small y:=oC h2 (B.out.1 p y (by omega) C.out);have N:=tG y x;have Y:=jy y x au ar wk;obtain⟨z,hz⟩:∃z,mz y x=z:=⟨_,rfl⟩;rw[hz]at Y N;have Y:=bP Y;have ab:=bP N;clear hz N ar au;by_cases S:z<0
              .have hd:decide (0<=z)=false:=bY;have aN:=bP (ab.out.1 S);clear S;go_wp2_with (go_at_call 155;refine Y.out.mono ?_;rintro e w1 ⟨rfl,E⟩);refine⟨⟨p+1+1,by go_num,by omega,B.out.snoc j.out af.out (fun u h0 hu=>?_),R.trans (E.mono R.size)⟩,by simp[intOf];omega⟩;rw[Nat.add_sub_cancel,<-Nat.add_sub_cancel (n:=p) (m:=1),C.out]at hu;cases hu;exact aN.out
              .have hd:decide (0<=z)=true:=bZ;have c:=bP (show¬cN M from fun h=>S (ab.out.2 (mS h.az l j.out C.out)));clear S;go_wp2_with (go_at_call 155;refine Y.out.mono ?_;rintro e w1 ⟨rfl,E⟩);have aJ:=f.out.2.trans ((R.trans (E.mono R.size)).mono f.out.2.size);go_ret;exact⟨cj c.out,aJ⟩
            .have c:=bP (show¬cN M from fun h=>p4 (h.arcs x O.out).2.2.2);go_quiet ((first |(go_at_call 160;exact Calls.quiet_of_same (iW _ _ _ _ (by assumption) (by assumption))) |(go_at_call 161;exact Calls.quiet_of_same (oE _ _ (by assumption))) |(go_at_call 161;exact Calls.quiet_of_same (uJ _ _ (by assumption)))));go_wp2;go_ret;exact⟨cj c.out,Go.below_drewN r _⟩
           .have c:=bP (show¬cN M from fun h=>p3 (h.arcs x O.out).2.2.1);go_quiet ((first |(go_at_call 160;exact Calls.quiet_of_same (iW _ _ _ _ (by assumption) (by assumption))) |(go_at_call 161;exact Calls.quiet_of_same (uJ _ _ (by assumption)))));go_wp2;go_ret;exact⟨cj c.out,Go.below_drewN r _⟩
          .have c:=bP (show¬cN M from fun h=>p2 (h.arcs x O.out).2.1);go_quiet ((first |(go_at_call 160;exact Calls.quiet_of_same (iW _ _ _ _ (by assumption) (by assumption))) |(go_at_call 160;exact Calls.quiet_of_same (oD _ _ _ _ (by assumption) (by assumption)))));go_wp2;go_ret;exact⟨cj c.out,Go.below_drewN r _⟩
         .have c:=bP (show¬cN M from fun h=>p1 (h.arcs x O.out).1);go_quiet ((first |(go_at_call 160;exact Calls.quiet_of_same (oD _ _ _ _ (by assumption) (by assumption)))));go_wp2;go_ret;exact⟨cj c.out,Go.below_drewN r _⟩
        .obtain rfl:k=M.arcs.length:=by omega
         have aA:=bP (show cN M from⟨by omega,h2,H3.out,by have:=H4.out;omega,X.out.1,X.out.2,B.out.all.1,B.out.all.2⟩);go_wp2;go_ret;exact⟨dP aA.out,F⟩
   .have q3:=oD M.start M.ag w.heap.size g T m0;have q:=bP q3;have c:=bP (show¬cN M from fun h=>T h.start);clear q3 T;go_wp2_with (go_at_call 160;refine q.out.mono ?_;rintro e w' ⟨rfl,rfl⟩);go_ret;exact⟨cj c.out,f.out.2⟩
end
end Go.Proofs.YtmhdgddjeadjjaaGreatDoor
