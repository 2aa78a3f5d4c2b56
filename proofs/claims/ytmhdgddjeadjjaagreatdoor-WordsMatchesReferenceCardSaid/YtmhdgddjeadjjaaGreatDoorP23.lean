/- EF -/
import Derived.Test.YtmhdgddjeadjjaaGreatDoorP12
import Derived.Test.YtmhdgddjeadjjaaGreatDoorP14
import Derived.Test.YtmhdgddjeadjjaaGreatDoorP16
namespace Go.Proofs.YtmhdgddjeadjjaaGreatDoor
open _root_.List Go.Lib _root_.Nat Go.World _root_.Int Go.Proofs.Tryz
section
open Go Classical
end
section
open Go.RowKit Classical
attribute [local go_sem] gB fU
set_option maxHeartbeats 4000000
theorem qh (z:Int)(w:World):
  Calls prog 177 #[.int .i64 z] w fun e w'=>e= .returned (.bool (decide (dD z)))/\w'=w:=by
 go_enter func177,ntmps177;by_cases a:z=0
 .have d0:(z==0)=true:=by simp[a]
  have b:=bP (decide_eq_true (show dD z from .inl a));clear a;go_wp2_with fail;go_ret;exact⟨by rw[b.out];simp,rfl⟩
 .have d0:(z==0)=false:=by simp[a]
  by_cases h1:33<=z
  .have d1:decide (33<=z)=true:=decide_eq_true h1;by_cases c:z<=126
   .have d2:decide (z<=126)=true:=decide_eq_true c;have b:=bP (decide_eq_true (show dD z from .inr ⟨h1,c⟩));clear a h1 c;go_wp2_with fail;go_ret;exact⟨by rw[b.out];simp,rfl⟩
   .have d2:decide (z<=126)=false:=decide_eq_false c;have b:=bP (decide_eq_false (show¬dD z from fun h=>h.elim a (fun h=>c h.2)));clear a h1 c;go_wp2_with fail;go_ret;exact⟨by rw[b.out];simp,rfl⟩
  .have d1:decide (33<=z)=false:=decide_eq_false h1;have b:=bP (decide_eq_false (show¬dD z from fun h=>h.elim a (fun h=>h1 h.1)));clear a h1;go_wp2_with fail;go_ret;exact⟨by rw[b.out];simp,rfl⟩
theorem qg (z:Int)(w:World)(a:dD z):Calls prog 177 #[.int .i64 z] w fun e w'=>e= .returned (.bool true)/\w'=w:=
 (qh z w).mono fun _ _ h=>⟨by rw[h.1,decide_eq_true a],h.2⟩
theorem xJ (z:Int)(w:World)(a:¬dD z):Calls prog 177 #[.int .i64 z] w fun e w'=>e= .returned (.bool false)/\w'=w:=
 (qh z w).mono fun _ _ h=>⟨by rw[h.1,decide_eq_false a],h.2⟩
set_option maxRecDepth 100000
theorem uU (M:cu)(v:Value)(s:Int)(w:World)(h:dx w w.heap.size v M):
  Calls prog 112 #[v,.int .i64 s] w fun e w'=>e= .returned (.bool (decide (s∈M.final)))/\Below w.heap.size w w':=by
 obtain⟨fa,fc,aa,ac,rfl,u,q,t, -⟩:=h;unfold maxLen at u q;obtain⟨W,i⟩:∃W:World,W=w.alloc (.cells #[.int .i64 M.ag,.int .i64 M.start,.slice fa M.final.length fc,.slice aa M.arcs.length ac] 98):=⟨_,rfl⟩;have l:Below w.heap.size w W:=by rw[i];exact bX.alloc bW _
 have p:Blk W w.heap.size #[.int .i64 M.ag,.int .i64 M.start,.slice fa M.final.length fc,.slice aa M.arcs.length ac] 98:=by rw[i];exact Blk.new _ _ _
 have m2:W.cell? ⟨w.heap.size,2,none⟩=some (.slice fa M.final.length fc):=p.cell 2;have H:=bP (t.below l bW);have n:=bP i;have o:=bP l;clear i l p t;go_enter func112,ntmps112;go_upto_region 1 with (fail);rw[<-n.out];clear n;go_wp2_with fail;go_loopw [5] (fun m z=>∃k:Nat,k<=M.final.length/\m= .int .i64 k/\s∉M.final.take k/\z=W) (fun m _=>M.final.length-(intOf m).toNat);case atStart=>exact⟨0,zero_le _,rfl,by simp,rfl⟩
 case round=>
  obtain⟨k,hk,rfl,f,rfl⟩:=hrel;by_cases d:k<M.final.length
  .obtain⟨b,off,rfl, -,r⟩:=H.out.nums (by omega);have x0:=r k d;have g:M.final.take (k+1)=M.final.take k++[M.final[k]]:=by rw[take_add_one,getElem?_eq_getElem d];rfl
   have a:M.final[k]∈M.final:=getElem_mem d;obtain⟨x,y⟩:∃x,M.final[k]=x:=⟨_,rfl⟩;rw[y]at x0 g a;have j:=bS f g a;clear f g a y r;by_cases he:x=s
   .have d1:(x==s)=true:=by simp[he]
    have c:=bP (decide_eq_true (show s∈M.final by rw[<-he];exact j.out.2.2));clear he;go_wp2_with fail;go_ret;exact⟨by rw[c.out];simp,o.out⟩
   .have d1:(x==s)=false:=by simp[he]
    have c:=bP (show s∉M.final.take (k+1)from fun h=>by
     rw[j.out.2.1]at h;rcases mem_append.1 h with h |h
     .exact j.out.1 h
     .exact he (mem_singleton.1 h).symm)
    clear he;go_wp2_with fail;exact⟨⟨k+1,by omega,by go_num,c.out,by first |trivial |rfl⟩,by simp[intOf];omega⟩
  .obtain rfl:k=M.final.length:=by omega
   have c:=bP (decide_eq_false (show s∉M.final by rw[take_length]at f;exact f));clear f;go_wp2_with fail;go_ret;exact⟨by rw[c.out];simp,o.out⟩
theorem xT (M:cu)(v:Value)(w:World)(h:dx w w.heap.size v M):
  Calls prog 107 #[v] w fun e w'=>e= .returned (.bool (decide (cN M)))/\Below w.heap.size w w':=by
 obtain⟨fa,fc,aa,ac,rfl,aj,aK,hf,ha⟩:=h;have aX:=aj;unfold maxLen at aj aK;obtain⟨f,O⟩:∃f:World,f=w.alloc (.cells #[.int .i64 M.ag,.int .i64 M.start,.slice fa M.final.length fc,.slice aa M.arcs.length ac] 98):=⟨_,rfl⟩;have D:Below w.heap.size w f:=by rw[O];exact bX.alloc bW _
 have B:Blk f w.heap.size #[.int .i64 M.ag,.int .i64 M.start,.slice fa M.final.length fc,.slice aa M.arcs.length ac] 98:=by rw[O];exact Blk.new _ _ _
 have G:=B.lt;have HM:=bP (fun(wr:World) (c:Below f.heap.size f wr)=>(show wr.cell? ⟨w.heap.size,0,none⟩=some (.int .i64 M.ag)/\wr.cell? ⟨w.heap.size,1,none⟩=some (.int .i64 M.start)/\wr.cell? ⟨w.heap.size,2,none⟩=some (.slice fa M.final.length fc)/\wr.cell? ⟨w.heap.size,3,none⟩=some (.slice aa M.arcs.length ac)from
  ⟨(B.below c G).cell 0,(B.below c G).cell 1,(B.below c G).cell 2,(B.below c G).cell 3⟩))
 have HF:=bP (fun(wr:World) (c:Below f.heap.size f wr) (k:Nat) (hk:k<M.final.length)=>by
  obtain⟨b,off,e,R,S⟩:=hf.nums (by omega);exact(⟨b,off,e,((D.trans (c.mono D.size)).cell (p:=⟨b,off+k,none⟩) R).trans (S k hk)⟩:∃b off,fa=some ⟨b,off,none⟩/\wr.cell? ⟨b,off+k,none⟩=some (.int .i64 M.final[k])))
 have HA:=bP (fun(wr:World) (c:Below f.heap.size f wr) (k:Nat) (hk:k<M.arcs.length)=>by
  obtain⟨b,off,e,R,S⟩:=ha.arcs (by omega);have q:=D.trans (c.mono D.size);exact(⟨b,off,e,(q.cell (p:=⟨b,off+k*4,none⟩) R).trans (S k hk).1,(q.cell (p:=⟨b,off+k*4+1,none⟩) R).trans (S k hk).2.1,
   (q.cell (p:=⟨b,off+k*4+2,none⟩) R).trans (S k hk).2.2.1,(q.cell (p:=⟨b,off+k*4+3,none⟩) R).trans (S k hk).2.2.2⟩:
   ∃b off,aa=some ⟨b,off,none⟩/\wr.cell? ⟨b,off+k*4,none⟩=some (.int .i64 M.arcs[k].frm)/\wr.cell? ⟨b,off+k*4+1,none⟩=some (.int .i64 M.arcs[k].inp)/\wr.cell? ⟨b,off+k*4+2,none⟩=some (.int .i64 M.arcs[k].out)/\wr.cell? ⟨b,off+k*4+3,none⟩=some (.int .i64 M.arcs[k].to)))
 have d:=bQ O D;obtain⟨m0,m1,m2,m3⟩:=HM.out f bX;clear O D B hf ha;go_enter func107,ntmps107;go_upto_region 1 with (fail);rw[<-d.out.1];by_cases h1:M.ag<1
 .have d1:decide (M.ag<1)=true:=decide_eq_true h1;have a:=bP (show¬cN M from fun h=>by have:=h.one;omega);go_wp2_with fail;go_ret;exact⟨cj a.out,d.out.2⟩
 have d1:decide (M.ag<1)=false:=decide_eq_false h1;by_cases h2:4000<M.ag
 .have d2:decide (4000<M.ag)=true:=decide_eq_true h2;have a:=bP (show¬cN M from fun h=>by have:=h.most;omega);go_wp2_with fail;go_ret;exact⟨cj a.out,d.out.2⟩
 have d2:decide (4000<M.ag)=false:=decide_eq_false h2;by_cases h3:M.start<0
 .have d3:decide (M.start<0)=true:=decide_eq_true h3;have a:=bP (show¬cN M from fun h=>by have:=h.start.1;omega);go_wp2_with fail;go_ret;exact⟨cj a.out,d.out.2⟩
 have d3:decide (M.start<0)=false:=decide_eq_false h3;by_cases Z:M.ag<=M.start
 .have ai:decide (M.ag<=M.start)=true:=decide_eq_true Z;have a:=bP (show¬cN M from fun h=>by have:=h.start.2;omega);go_wp2_with fail;go_ret;exact⟨cj a.out,d.out.2⟩
 have ai:decide (M.ag<=M.start)=false:=decide_eq_false Z;have H3:=bP (show cD M.ag M.start from⟨by omega,by omega⟩);clear h3 Z;by_cases h4:20000<M.arcs.length
 .have d4:decide ((20000:Int)<(M.arcs.length:Int))=true:=bZ;have a:=bP (show¬cN M from fun h=>by have:=h.an;omega);go_wp2_with fail;go_ret;exact⟨cj a.out,d.out.2⟩
 have d4:decide ((20000:Int)<(M.arcs.length:Int))=false:=bY;have H4:=bP h4;clear h4;go_wp2_with fail;clear d1 d2 d3 ai d4 m0 m1 m2 m3;go_loopw [3] (fun i wr=>∃k:Nat,i= .int .i64 k/\k<=M.final.length/\gJ M k/\Below f.heap.size f wr) (fun i _=>M.final.length-(intOf i).toNat);case atStart=>exact⟨0,rfl,zero_le _,gJ.zero M,bX⟩
 case round=>
  obtain⟨k,rfl,aN,hP,c⟩:=hrel;have F:=bP hP;clear hP;obtain⟨m0,m1,m2,m3⟩:=HM.out wr c;have s:=d.out.2.trans (c.mono d.out.2.size);by_cases hk:k<M.final.length
  .obtain⟨b,off,rfl,x0⟩:=HF.out wr c k hk;obtain⟨x,t⟩:∃x,x=M.final[k]:=⟨_,rfl⟩;rw[<-t]at x0;have j:=bP (show M.final[k]?=some x by rw[t];exact getElem?_eq_getElem hk);clear t;by_cases q:cD M.ag x
   .have Hx:=bP q;have Y:decide (x<0)=false:=decide_eq_false (by have:=q.1;omega);have e2:decide (M.ag<=x)=false:=decide_eq_false (by have:=q.2;omega);clear q;rcases eq_zero_or_pos k with l |l
    .have d0:decide (0<k)=false:=bY;have X:=bP l;clear l;go_wp2_with fail;go_quiet (fail);go_wp2;exact⟨⟨k+1,by go_num,by omega,F.out.snoc j.out Hx.out (fun y h0=>absurd X.out (by omega)),Go.below_drewN c _⟩,by simp[intOf];omega⟩
    .obtain⟨b',aB,e',y0⟩:=HF.out wr c (k-1) (by omega);cases e'
     obtain⟨y,A⟩:∃y,y=M.final[k-1]:=⟨_,rfl⟩;rw[<-A]at y0;have I:=bP (show M.final[k-1]?=some y by rw[A];exact getElem?_eq_getElem (by omega));clear A;obtain⟨p,rfl⟩:∃p,k=p+1:=⟨k-1,by omega⟩;have d0:decide ((0:Int)<(p:Int)+1)=true:=bZ;have ao:IntKind.i64.wrap (p:Int)=p:=IntWalk.i64_in _ (by omega);have aO:p<M.final.length:=by omega
     simp only[Nat.add_sub_cancel]at y0;by_cases aq:x<=y
     .have d5:decide (x<=y)=true:=decide_eq_true aq;have a:=bP (show¬cN M from fun h=>by
       have:=mS h.inc l j.out I.out;omega)
      go_wp2_with fail;go_quiet (fail);go_wp2;go_ret;exact⟨cj a.out,Go.below_drewN s _⟩
     .have d5:decide (x<=y)=false:=decide_eq_false aq;go_wp2_with fail;go_quiet (fail);go_wp2;refine⟨⟨p+1+1,by go_num,by omega,F.out.snoc j.out Hx.out (fun z h0 hz=>?_),Go.below_drewN c _⟩,by simp[intOf];omega⟩;rw[I.out]at hz;cases hz;omega
   .have a:=bP (show¬cN M from fun h=>q (h.final x (mem_of_getElem? j.out)));by_cases r:x<0
    .have Y:decide (x<0)=true:=decide_eq_true r;clear q;go_wp2_with fail;go_quiet (fail);go_wp2;go_ret;exact⟨cj a.out,Go.below_drewN s _⟩
    .have Y:decide (x<0)=false:=decide_eq_false r;have e2:decide (M.ag<=x)=true:=decide_eq_true (by unfold cD at q;omega);clear q;go_wp2_with fail;go_quiet (fail);go_wp2;go_ret;exact⟨cj a.out,Go.below_drewN s _⟩
  .obtain rfl:k=M.final.length:=by omega
   have V:=bP F.out.all;clear F;go_wp2_with fail;obtain⟨H,rfl⟩:∃H:World,H=wr:=⟨_,rfl⟩;go_loopw [4] (fun i wr=>∃k:Nat,i= .int .i64 k/\k<=M.arcs.length/\gH M k/\Below f.heap.size f wr) (fun i _=>M.arcs.length-(intOf i).toNat);case atStart=>exact⟨0,rfl,zero_le _,gH.zero M,c⟩
   case round=>
    clear c s m0 m1 m2 m3;obtain⟨k,rfl,aN,hP,c⟩:=hrel;have F:=bP hP;clear hP;obtain⟨m0,m1,m2,m3⟩:=HM.out wr c;have s:=d.out.2.trans (c.mono d.out.2.size);by_cases hk:k<M.arcs.length
    .obtain⟨b,off,rfl,x0,x1,x2,x3⟩:=HA.out wr c k hk;obtain⟨x,t⟩:∃x,x=M.arcs[k]:=⟨_,rfl⟩;rw[<-t]at x0 x1 x2 x3;have j:=bP (show M.arcs[k]?=some x by rw[t];exact getElem?_eq_getElem hk);clear t;obtain⟨H,rfl⟩:∃H:World,H=wr:=⟨_,rfl⟩;go_upto_region 12 with (fail);obtain⟨J,P⟩:∃J:World,J=H.alloc (.cells #[.int .i64 x.frm,.int .i64 x.inp,.int .i64 x.out,.int .i64 x.to] 171):=⟨_,rfl⟩;rw[<-P];have C:Below H.heap.size H J:=by rw[P];exact bX.alloc bW _
     have L:Blk J H.heap.size #[.int .i64 x.frm,.int .i64 x.inp,.int .i64 x.out,.int .i64 x.to] 171:=by rw[P];exact Blk.new _ _ _
     have o:=c.trans (C.mono c.size);clear P x0 x1 x2 x3 m0 m1 m2 m3;obtain⟨m0,m1,m2,m3⟩:=HM.out J o;have a0:=L.cell 0;have a1:=L.cell 1;have a2:=L.cell 2;have a3:=L.cell 3;simp only[getElem?_toArray,getElem?_cons_zero,getElem?_cons_succ]at a0 a1 a2 a3;have g:=d.out.2.trans (o.mono d.out.2.size);clear L C c s;have ak:=mem_of_getElem? j.out;have N:=bP ak;clear ak;have f1:cD M.ag x.frm->decide (x.frm<0)=false/\decide (M.ag<=x.frm)=false:=fun h=>⟨decide_eq_false (by have:=h.1;omega),decide_eq_false (by have:=h.2;omega)⟩;have f2:cD M.ag x.to->decide (x.to<0)=false/\decide (M.ag<=x.to)=false:=fun h=>⟨decide_eq_false (by have:=h.1;omega),decide_eq_false (by have:=h.2;omega)⟩;have ah:=bQ f1 f2;clear f1 f2;by_cases T:cD M.ag x.frm
     .obtain⟨Y,e2⟩:=ah.out.1 T;by_cases U:cD M.ag x.to
      .obtain⟨e3,e4⟩:=ah.out.2 U;by_cases p3:dD x.inp
       .by_cases p4:dD x.out
        .have al:=bP (show cD M.ag x.frm/\cD M.ag x.to/\dD x.inp/\dD x.out from⟨T,U,p3,p4⟩);rcases eq_zero_or_pos k with l |l
         .have d0:decide (0<k)=false:=bY;have X:=bP l;clear l;go_quiet ((first |(go_at_call 177;exact Calls.quiet_of_same (qg _ _ (by assumption)))));go_wp2;exact⟨⟨k+1,by go_num,by omega,F.out.snoc j.out al.out (fun y h0=>absurd X.out (by omega)),Go.below_drewN o _⟩,by simp[intOf];omega⟩
         .obtain⟨b',aB,e',y0,y1,y2,y3⟩:=HA.out J o (k-1) (by omega);cases e'
          obtain⟨y,A⟩:∃y,y=M.arcs[k-1]:=⟨_,rfl⟩;rw[<-A]at y0 y1 y2 y3;have I:=bP (show M.arcs[k-1]?=some y by rw[A];exact getElem?_eq_getElem (by omega));clear A;obtain⟨p,rfl⟩:∃p,k=p+1:=⟨k-1,by omega⟩;have d0:decide ((0:Int)<(p:Int)+1)=true:=bZ;have ao:IntKind.i64.wrap (p:Int)=p:=IntWalk.i64_in _ (by omega);have aO:p<M.arcs.length:=by omega
          simp only[Nat.add_sub_cancel]at y0 y1 y2 y3;refine wp_region_still_tail 45 (by kernel_rfl) (by kernel_rfl) ?_;simp only[take_succ_cons,take_zero,drop_succ_cons,drop_zero];repeat (first |still_step |still_call (qg _ _ (by assumption)))
          refine wpStill_nil ?_;change wpList _ _ _ _ _ J.drew;clear ao y0 y1 y2 y3 a0 a1 a2 a3 m0 m1 m2 m3;obtain⟨wk,ad⟩:∃wk,J.drew=wk:=⟨_,rfl⟩;have Q:Below f.heap.size f wk:=by rw[<-ad];exact o.drew
          rw[ad];clear ad o g;by_cases E:y.lt x
          .have HQ:=bP (pf y x E wk);have aF:=bP E;clear E;go_wp2_with (go_at_call 178;refine HQ.out.mono ?_;rintro e w1 ⟨rfl,C⟩);refine⟨⟨p+1+1,by go_num,by omega,F.out.snoc j.out al.out (fun u h0 hu=>?_),Q.trans (C.mono Q.size)⟩,by simp[intOf];omega⟩;rw[Nat.add_sub_cancel,<-Nat.add_sub_cancel (n:=p) (m:=1),I.out]at hu;cases hu;exact aF.out
          .have HQ:=bP (qz y x E wk);have a:=bP (show¬cN M from fun h=>E (mS h.az l j.out I.out));clear E;go_wp2_with (go_at_call 178;refine HQ.out.mono ?_;rintro e w1 ⟨rfl,C⟩);have aL:=d.out.2.trans ((Q.trans (C.mono Q.size)).mono d.out.2.size);go_ret;exact⟨cj a.out,aL⟩
        .have a:=bP (show¬cN M from fun h=>p4 (h.arcs x N.out).2.2.2);go_quiet ((first |(go_at_call 177;exact Calls.quiet_of_same (qg _ _ (by assumption))) |(go_at_call 177;exact Calls.quiet_of_same (xJ _ _ (by assumption)))));go_wp2;go_ret;exact⟨cj a.out,Go.below_drewN g _⟩
       .have a:=bP (show¬cN M from fun h=>p3 (h.arcs x N.out).2.2.1);go_quiet ((first |(go_at_call 177;exact Calls.quiet_of_same (xJ _ _ (by assumption)))));go_wp2;go_ret;exact⟨cj a.out,Go.below_drewN g _⟩
      .have a:=bP (show¬cN M from fun h=>U (h.arcs x N.out).2.1);by_cases r:x.to<0
       .have e3:decide (x.to<0)=true:=decide_eq_true r;clear U;go_quiet (fail);go_wp2;go_ret;exact⟨cj a.out,Go.below_drewN g _⟩
       .have e3:decide (x.to<0)=false:=decide_eq_false r;have e4:decide (M.ag<=x.to)=true:=decide_eq_true (by unfold cD at U;omega);clear U;go_quiet (fail);go_wp2;go_ret;exact⟨cj a.out,Go.below_drewN g _⟩
     .have a:=bP (show¬cN M from fun h=>T (h.arcs x N.out).1);by_cases r:x.frm<0
      .have Y:decide (x.frm<0)=true:=decide_eq_true r;clear T;go_quiet (fail);go_wp2;go_ret;exact⟨cj a.out,Go.below_drewN g _⟩
      .have Y:decide (x.frm<0)=false:=decide_eq_false r;have e2:decide (M.ag<=x.frm)=true:=decide_eq_true (by unfold cD at T;omega);clear T;go_quiet (fail);go_wp2;go_ret;exact⟨cj a.out,Go.below_drewN g _⟩
    .obtain rfl:k=M.arcs.length:=by omega
     have aA:=bP (show cN M from⟨by omega,h2,H3.out,by have:=H4.out;omega,V.out.1,V.out.2,F.out.all.1,F.out.all.2⟩);go_wp2;go_ret;exact⟨dP aA.out,s⟩
end
end Go.Proofs.YtmhdgddjeadjjaaGreatDoor
