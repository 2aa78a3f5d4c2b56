/- SF -/
import Derived.Test.YtmhdgddjeadjjaaGreatDoorP27
namespace Go.Proofs.YtmhdgddjeadjjaaGreatDoor
open _root_.List Go.Lib _root_.Nat Go.World _root_.Int Go.Proofs.Tryz
section
open Go.RowKit Go.Shelf Classical
def RlQ (b:cC)(i:Nat)(r:dj):Prop:=∃f t A B,b.no r.src f A/\b.no r.dst t B/\f≠t/\eo b A B=i/\dr r A B
theorem RlQ.not_neg {b:cC}{i:Nat}{r:dj}(h:dF b r.src<0\/dF b r.dst<0):¬RlQ b i r:=fun⟨f,t,A,B,h1,a,_⟩=>by
 rcases h with h |h
 .rcases gn b r.src with ⟨_,q⟩ |⟨k,C,_,_,q⟩
  .exact q f A h1
  .omega
 .rcases gn b r.dst with ⟨_,q⟩ |⟨k,C,_,_,q⟩
  .exact q t B a
  .omega
theorem RlQ.iff {b:cC}{i:Nat}{r:dj}(c:b.names.Nodup){f t:Nat}{A B:cr}(h1:b.no r.src f A)(a:b.no r.dst t B):RlQ b i r↔f≠t/\eo b A B=i/\dr r A B:=by
 constructor
 .rintro⟨e,g,d,B',k1,k2,k3⟩;obtain⟨rfl,rfl⟩:=cC.aq c h1 k1;obtain⟨rfl,rfl⟩:=cC.aq c a k2;exact k3
 .exact fun h=>⟨f,t,A,B,h1,a,h⟩
theorem jH {p:Prop}[Decidable p](h:¬p):Value.bool true= .bool (!decide p):=by rw[decide_eq_false h];rfl
theorem xn {p:Prop}[Decidable p](h:p):Value.bool false= .bool (!decide p):=by rw[decide_eq_true h];rfl
set_option maxRecDepth 100000
set_option maxHeartbeats 4000000
theorem p8 (b:cC)(v:Value)(w:World)(h:dm w w.heap.size v b):
  Calls prog 46 #[v] w fun e w'=>e= .returned (.bool (decide (cU b)))/\Below w.heap.size w w':=by
 have aL:=h;obtain⟨a,c,a',c',rfl,bT,bU,hA,hR⟩:=h;unfold maxLen at bT bU;obtain⟨vb,bt⟩:∃vb:Value,vb= .agg #[.slice a b.ae.length c,.slice a' b.rules.length c']:=⟨_,rfl⟩;rw[<-bt]at aL;go_enter func46,ntmps46;go_upto_region 1 with (fail);generalize aN:(w.alloc _)=J;have aW:Below w.heap.size w J:=by rw[<-aN];exact bX.alloc bW _
 have aB:Blk J w.heap.size #[.slice a b.ae.length c,.slice a' b.rules.length c'] 25:=by rw[<-aN];exact Blk.new _ _ _
 have bk:=aB.lt;have HF:=bP (fun(wr:World) (q:Below J.heap.size J wr)=>(show(wr.cell? ⟨w.heap.size,0,none⟩=some (.slice a b.ae.length c)/\wr.cell? ⟨w.heap.size,1,none⟩=some (.slice a' b.rules.length c'))/\dm wr wr.heap.size vb b/\eS wr wr.heap.size a b.ae/\gL wr wr.heap.size a' b.rules/\Below w.heap.size w wr from by
  have hx:=aW.trans (q.mono aW.size);exact⟨⟨(aB.below q bk).cell 0,(aB.below q bk).cell 1⟩,(aL.below hx bW).more hx.size,(hA.below hx bW).more hx.size,(hR.below hx bW).more hx.size,hx⟩))
 have aA:=bP bt;clear aN aW aB hA hR aL;obtain⟨⟨m0,m1⟩, -⟩:=HF.out J bX;by_cases hn:1<=b.ae.length/\b.ae.length<=8;case neg=>
  have Y:=bP (show¬cU b from fun h=>hn ⟨h.scr.one,h.scr.most⟩);by_cases h1:b.ae.length<1
  .clear hn;go_wp2_with fail;go_ret;exact⟨cj Y.out,(HF.out J bX).2.2.2.2⟩
  .have h8:8<b.ae.length:=by omega
   clear hn;go_wp2_with fail;go_ret;exact⟨cj Y.out,(HF.out J bX).2.2.2.2⟩
 obtain⟨bp,bV⟩:=hn;go_wp2_with fail;clear m0 m1;go_loopw [3] (fun i wr=>∃k:Nat,k<=b.ae.length/\i= .int .i64 k/\tj b k/\Below J.heap.size J wr) (fun i _=>b.ae.length-(intOf i).toNat);case atStart=>exact⟨0,zero_le _,rfl,fun j A hj=>by omega,bX⟩
 case round=>
  obtain⟨k,hk,rfl,aU,O⟩:=hrel;have F:=bQ aU O;clear aU O;obtain⟨⟨m0,m1⟩,ag,aO, -,H⟩:=HF.out wr F.out.2;by_cases ao:k<b.ae.length;case neg=>
   obtain rfl:k=b.ae.length:=by omega
   have HS:=bP (F.out.1.done bp bV);obtain⟨W1,rfl⟩:∃W1:World,W1=wr:=⟨_,rfl⟩;have H1:=bP F.out.2;clear ag aO H F;go_wp2_with fail;clear m0 m1;go_loopw [4] (fun i wr=>∃k:Nat,k<=b.rules.length/\i= .int .i64 k/\fO b (b.rules.take k)/\Below J.heap.size J wr) (fun i _=>b.rules.length-(intOf i).toNat);case atStart=>exact⟨0,zero_le _,rfl,fO.nil,H1.out⟩
   case round=>
    obtain⟨k,hk,rfl,br,O⟩:=hrel;have F:=bQ br O;clear br O;obtain⟨⟨m0,m1⟩, -, -,aT,H⟩:=HF.out wr F.out.2;by_cases ao:k<b.rules.length;case neg=>
     obtain rfl:k=b.rules.length:=by omega
     obtain⟨W2,rfl⟩:∃W2:World,W2=wr:=⟨_,rfl⟩;have H2:=bP F.out.2;have bI:=bP F.out.1;clear aT H F;go_wp2_with fail;clear m0 m1;go_loopw [7] (fun i wr=>∃k:Nat,1<=k/\k<=b.ae.length/\i= .int .i64 k/\mC b k/\Below J.heap.size J wr) (fun i _=>b.ae.length-(intOf i).toNat);case atStart=>exact⟨1,bW,bp,rfl,mC.start,H2.out⟩
     case round=>
      obtain⟨k,bS,hk,rfl,bj,O⟩:=hrel;have F:=bQ bj O;clear bj O;obtain⟨⟨m0,m1⟩,ag, -, -,H⟩:=HF.out wr F.out.2;by_cases ao:k<b.ae.length;case neg=>
       have Y:=bP (show cU b from AB HS.out bI.out bW F.out.1 (by omega));have Hb:=bP H;clear ag H;go_wp2_with fail;go_ret;exact⟨dP Y.out,Hb.out⟩
      obtain⟨A,T⟩:∃A,b.ae[k]?=some A:=⟨_,getElem?_eq_getElem ao⟩;obtain⟨B,aM⟩:∃B,b.ae[0]?=some B:=⟨_,getElem?_eq_getElem (by omega)⟩;have aj:=j3 b vb k 0 A B T aM wr ag;rw[aA.out]at aj;have HC:=bP aj;have ay:=bQ T aM;have M:=bP H;clear aj ag T aM H;rcases fV b A B with ⟨q1,Q⟩ |⟨j,r,X,q1,Q,q3, -,q4⟩
      .rw[q1]at HC;have Y:=bP (show¬cU b from fun h=>by have:=h.a8 bS ay.out.1 ay.out.2;omega);clear q1 Q;go_wp2_with fail;refine HC.out.mono ?_;rintro e w5 ⟨rfl,an⟩;have aJ:=bP (M.out.trans (an.mono M.out.size));clear an;go_wp2_with fail;go_ret;exact⟨cj Y.out,aJ.out⟩
      .rw[q4]at HC;have HE:=bP (F.out.1.step ay.out.1 ay.out.2 (by rw[q4];omega));have cb:j<b.rules.length:=X;clear X q1 Q q3 q4;go_wp2_with fail;refine HC.out.mono ?_;rintro e w5 ⟨rfl,an⟩;have aJ:=bP (F.out.2.trans (an.mono F.out.2.size));clear an;go_wp2_with fail;exact⟨⟨k+1,by omega,by omega,by go_num,HE.out,aJ.out⟩,by simp[intOf];omega⟩
    obtain⟨r,aS⟩:∃r,b.rules[k]?=some r:=⟨_,getElem?_eq_getElem ao⟩;obtain⟨g2,o2,bu,bf,rfl,aR,X,q1,Q,aP⟩:=aT.get aS;have be:=bP aS;have ak:=bP (fun(w':World) (q:Below wr.heap.size wr w')=>(show(w'.cell? ⟨g2,o2+k*3,none⟩=some (.string r.src)/\w'.cell? ⟨g2,o2+k*3+1,none⟩=some (.string r.dst)/\w'.cell? ⟨g2,o2+k*3+2,none⟩=some (.slice bu r.list.length bf))/\dY w' w'.heap.size (.agg #[.string r.src,.string r.dst,.slice bu r.list.length bf]) r from
     ⟨⟨(q.cell (p:=⟨g2,_,none⟩) aR).trans X,(q.cell (p:=⟨g2,_,none⟩) aR).trans q1,(q.cell (p:=⟨g2,_,none⟩) aR).trans Q⟩,(aP.below q bW).more q.size⟩))
    have L:=bP (fun(w':World) (q:Below wr.heap.size wr w')=>(HF.out w' (F.out.2.trans (q.mono F.out.2.size))));have ab:=bP (fun(s:ByteArray) (w':World) (q:Below wr.heap.size wr w')=>(show Calls prog 81 #[.agg #[.slice a b.ae.length c,.slice (some ⟨g2,o2,none⟩) b.rules.length c'],.string s] w' (fun e w5=>e= .returned (.int .i64 (dF b s))/\Below w'.heap.size w' w5)from by
     have:=qQ b vb s w' (L.out w' q).2.1;rw[aA.out]at this;exact this))
    have M:=bP H;clear aS aT X q1 Q aP H;go_upto_region 11 with (fail);clear m0 m1;go_cut [5] (fun v wx=>v= .int .i64 (dF b r.src)/\Below wr.heap.size wr wx);case first=>
     have n:=bP (fun(w':World) (q:Below wr.heap.size wr w')=>And.intro (L.out w' q).1 (ak.out w' q).1);refine wp_region_held_drew (S:=fun w'=>Below wr.heap.size wr w') (by kernel_rfl) (Go.below_drewN (Below.refl _ wr) 1) (fun ai=>?_);have l:Below wr.heap.size wr _:=Go.below_drewN (Below.refl _ wr) 1;refine tk [0,1,2,3,4,5,6] ?_;repeat ((refine tkt (v:=?_) ?_ ?_;rotate_left;·intro w' d;obtain⟨⟨s0,s1⟩,s2,u,x⟩:=n.out w' d;go_simp<;>with_reducible rfl);try simp only[pS])
     refine tkn ?_;refine rd1 7 (fun K hK=>?_);go_simp;go_at_call 81;refine(ab.out r.src _ (l)).mono ?_;rintro e P ⟨rfl,y⟩;have m:=Below.trans (l) (y.mono (Below.size (l)));refine hK.out _ _ m (fun _=>?_);clear hK K;try simp only[pS]
     refine tk [8] ?_;refine tkt (v:=?_) ?_ ?_;rotate_left
     .intro w' d;obtain⟨⟨s0,s1⟩,s2,u,x⟩:=n.out w' d;go_simp<;>with_reducible rfl
     try simp only[pS]
     refine tkn ?_;refine wpAnyH_done (by kernel_rfl) ?_ _;go_wp2_with fail;go_meet;exact⟨rfl,m⟩
    case rest=>
     obtain⟨rfl,bg⟩:=hcut;have aI:=bP bg;clear bg;go_upto_region 12 with (fail);go_cut [6] (fun v wx=>v= .int .i64 (dF b r.dst)/\Below wr.heap.size wr wx);case first=>
      have n:=bP (fun(w':World) (q:Below wr.heap.size wr w')=>And.intro (L.out w' q).1 (ak.out w' q).1);refine wp_region_held_drew (S:=fun w'=>Below wr.heap.size wr w') (by kernel_rfl) (Go.below_drewN aI.out 1) (fun ai=>?_);have l:Below wr.heap.size wr _:=Go.below_drewN aI.out 1;refine tk [0,1,2,3,4,5,6] ?_;repeat ((refine tkt (v:=?_) ?_ ?_;rotate_left;·intro w' d;obtain⟨⟨s0,s1⟩,s2,u,x⟩:=n.out w' d;go_simp<;>with_reducible rfl);try simp only[pS])
      refine tkn ?_;refine rd1 7 (fun K hK=>?_);go_simp;go_at_call 81;refine(ab.out r.dst _ (l)).mono ?_;rintro e P ⟨rfl,y⟩;have m:=Below.trans (l) (y.mono (Below.size (l)));refine hK.out _ _ m (fun _=>?_);clear hK K;try simp only[pS]
      refine tk [8] ?_;refine tkt (v:=?_) ?_ ?_;rotate_left
      .intro w' d;obtain⟨⟨s0,s1⟩,s2,u,x⟩:=n.out w' d;go_simp<;>with_reducible rfl
      try simp only[pS]
      refine tkn ?_;refine wpAnyH_done (by kernel_rfl) ?_ _;go_wp2_with fail;go_meet;exact⟨rfl,m⟩
     case rest=>
      obtain⟨rfl,bh⟩:=hcut;have R:=bP bh;clear bh aI;obtain⟨fI,aQ⟩:∃z:Int,z=dF b r.src:=⟨_,rfl⟩;obtain⟨tI,aV⟩:∃z:Int,z=dF b r.dst:=⟨_,rfl⟩;rw[<-aQ,<-aV];have N:=bQ aQ aV;clear aQ aV;go_upto_region 13 with (fail);go_cut [104] (fun v wx=>v= .bool (!decide (RlQ b k r))/\Below wr.heap.size wr wx);case first=>
       have n:=bP (fun(w':World) (q:Below wr.heap.size wr w')=>And.intro (L.out w' q).1 (ak.out w' q).1);refine wp_region_held_drew (S:=fun w'=>Below wr.heap.size wr w') (by kernel_rfl) (Go.below_drewN R.out 1) (fun ai=>?_);rcases gn b r.src with ⟨s1, -⟩ |⟨f,A,hA,b9,s1⟩
       .have D:¬RlQ b k r:=RlQ.not_neg (.inl (by omega));obtain rfl:fI= -1:=N.out.1.trans s1;clear s1 N;have l:Below wr.heap.size wr _:=Go.below_drewN R.out 1;refine tk [0,1,2] ?_;repeat ((refine tkt (v:=?_) ?_ ?_;rotate_left;·intro w' d;obtain⟨⟨s0,s1⟩,s2,u,x⟩:=n.out w' d;go_simp<;>with_reducible rfl);try simp only[pS])
        refine tkn ?_;refine tk [3,4] ?_;repeat ((refine tkl ?_);try simp only[pS])
        refine tkn ?_;refine tk [5,6] ?_;repeat ((refine tkt (v:=?_) ?_ ?_;rotate_left;·intro w' d;obtain⟨⟨s0,s1⟩,s2,u,x⟩:=n.out w' d;go_simp<;>with_reducible rfl);try simp only[pS])
        refine tkn ?_;refine tk [7,8,9] ?_;repeat ((refine tkl ?_);try simp only[pS])
        refine tkn ?_;refine tk [10,11] ?_;repeat ((refine tkt (v:=?_) ?_ ?_;rotate_left;·intro w' d;obtain⟨⟨s0,s1⟩,s2,u,x⟩:=n.out w' d;go_simp<;>with_reducible rfl);try simp only[pS])
        refine tkn ?_;refine tk [12,13,14,15,16,17] ?_;repeat ((refine tkl ?_);try simp only[pS])
        refine tkn ?_;refine tk [18,19] ?_;repeat ((refine tkt (v:=?_) ?_ ?_;rotate_left;·intro w' d;obtain⟨⟨s0,s1⟩,s2,u,x⟩:=n.out w' d;go_simp<;>with_reducible rfl);try simp only[pS])
        refine tkn ?_;refine tk [20,21,22,23,24,25,26,27,28,29,30,31,32,33,34,35,36] ?_;repeat ((refine tkl ?_);try simp only[pS])
        refine tkn ?_;refine tk [37] ?_;refine tkt (v:=?_) ?_ ?_;rotate_left
        .intro w' d;obtain⟨⟨s0,s1⟩,s2,u,x⟩:=n.out w' d;go_simp<;>with_reducible rfl
        try simp only[pS]
        refine tkn ?_;refine wpAnyH_done (by kernel_rfl) ?_ _;go_wp2_with fail;go_meet;exact⟨jH D,l⟩
       rcases gn b r.dst with ⟨s2, -⟩ |⟨t,B,hB,cd,s2⟩
       .have D:¬RlQ b k r:=RlQ.not_neg (.inr (by omega));obtain rfl:fI=(f:Int):=N.out.1.trans s1;obtain rfl:tI= -1:=N.out.2.trans s2;clear s1 s2 N;have d1:decide ((f:Int)<0)=false:=bY;have l:Below wr.heap.size wr _:=Go.below_drewN R.out 1;refine tk [0,1,2,3,4,5,6] ?_;repeat ((refine tkt (v:=?_) ?_ ?_;rotate_left;·intro w' d;obtain⟨⟨s0,s1⟩,s2,u,x⟩:=n.out w' d;go_simp<;>with_reducible rfl);try simp only[pS])
        refine tkn ?_;refine tk [7,8,9] ?_;repeat ((refine tkl ?_);try simp only[pS])
        refine tkn ?_;refine tk [10,11] ?_;repeat ((refine tkt (v:=?_) ?_ ?_;rotate_left;·intro w' d;obtain⟨⟨s0,s1⟩,s2,u,x⟩:=n.out w' d;go_simp<;>with_reducible rfl);try simp only[pS])
        refine tkn ?_;refine tk [12,13,14,15,16,17] ?_;repeat ((refine tkl ?_);try simp only[pS])
        refine tkn ?_;refine tk [18,19] ?_;repeat ((refine tkt (v:=?_) ?_ ?_;rotate_left;·intro w' d;obtain⟨⟨s0,s1⟩,s2,u,x⟩:=n.out w' d;go_simp<;>with_reducible rfl);try simp only[pS])
        refine tkn ?_;refine tk [20,21,22,23,24,25,26,27,28,29,30,31,32,33,34,35,36] ?_;repeat ((refine tkl ?_);try simp only[pS])
        refine tkn ?_;refine tk [37] ?_;refine tkt (v:=?_) ?_ ?_;rotate_left
        .intro w' d;obtain⟨⟨s0,s1⟩,s2,u,x⟩:=n.out w' d;go_simp<;>with_reducible rfl
        try simp only[pS]
        refine tkn ?_;refine wpAnyH_done (by kernel_rfl) ?_ _;go_wp2_with fail;go_meet;exact⟨jH D,l⟩
       obtain rfl:fI=(f:Int):=N.out.1.trans s1;obtain rfl:tI=(t:Int):=N.out.2.trans s2;clear s1 s2 N;have d1:decide ((f:Int)<0)=false:=bY;have d2:decide ((t:Int)<0)=false:=bY;have I:=RlQ.iff (i:=k) HS.out.names hA hB;by_cases V:f=t
       .have D:¬RlQ b k r:=fun h=>(I.1 h).1 V;have d3:((f:Int)==(t:Int))=true:=by rw[V];simp
        clear V I;have l:Below wr.heap.size wr _:=Go.below_drewN R.out 1;refine tk [0,1,2,3,4,5,6,7,8,9,10,11] ?_;repeat ((refine tkt (v:=?_) ?_ ?_;rotate_left;·intro w' d;obtain⟨⟨s0,s1⟩,s2,u,x⟩:=n.out w' d;go_simp<;>with_reducible rfl);try simp only[pS])
        refine tkn ?_;refine tk [12,13,14,15,16,17] ?_;repeat ((refine tkl ?_);try simp only[pS])
        refine tkn ?_;refine tk [18,19] ?_;repeat ((refine tkt (v:=?_) ?_ ?_;rotate_left;·intro w' d;obtain⟨⟨s0,s1⟩,s2,u,x⟩:=n.out w' d;go_simp<;>with_reducible rfl);try simp only[pS])
        refine tkn ?_;refine tk [20,21,22,23,24,25,26,27,28,29,30,31,32,33,34,35,36] ?_;repeat ((refine tkl ?_);try simp only[pS])
        refine tkn ?_;refine tk [37] ?_;refine tkt (v:=?_) ?_ ?_;rotate_left
        .intro w' d;obtain⟨⟨s0,s1⟩,s2,u,x⟩:=n.out w' d;go_simp<;>with_reducible rfl
        try simp only[pS]
        refine tkn ?_;refine wpAnyH_done (by kernel_rfl) ?_ _;go_wp2_with fail;go_meet;exact⟨jH D,l⟩
       have d3:((f:Int)==(t:Int))=false:=by simp;omega
       have aF:=bP (fun(w':World) (q:Below wr.heap.size wr w')=>(show Calls prog 82 #[.agg #[.slice a b.ae.length c,.slice (some ⟨g2,o2,none⟩) b.rules.length c'],.int .i64 f,.int .i64 t] w' (fun e w5=>e= .returned (.int .i64 (eo b A B))/\Below w'.heap.size w' w5)from by
        have:=j3 b vb f t A B hA.1 hB.1 w' (L.out w' q).2.1;rw[aA.out]at this;exact this))
       by_cases af:eo b A B=k;case neg=>
        have D:¬RlQ b k r:=fun h=>af (I.1 h).2.1;have d4:(eo b A B != (k:Int))=true:=by simpa using af
        clear V I af;have l:Below wr.heap.size wr _:=Go.below_drewN R.out 1;refine tk [0,1,2,3,4,5,6,7,8,9,10,11,12,13,14,16] ?_;repeat ((refine tkt (v:=?_) ?_ ?_;rotate_left;·intro w' d;obtain⟨⟨s0,s1⟩,s2,u,x⟩:=n.out w' d;go_simp<;>with_reducible rfl);try simp only[pS])
        refine tkn ?_;refine rd1 15 (fun K hK=>?_);go_simp;go_at_call 82;refine(aF.out _ (l)).mono ?_;rintro e P ⟨rfl,y⟩;have m:=Below.trans (l) (y.mono (Below.size (l)));refine hK.out _ _ m (fun _=>?_);clear hK K;try simp only[pS]
        refine tk [17,18,19] ?_;repeat ((refine tkt (v:=?_) ?_ ?_;rotate_left;·intro w' d;obtain⟨⟨s0,s1⟩,s2,u,x⟩:=n.out w' d;go_simp<;>with_reducible rfl);try simp only[pS])
        refine tkn ?_;refine tk [20,21,22,23,24,25,26,27,28,29,30,31,32,33,34,35,36] ?_;repeat ((refine tkl ?_);try simp only[pS])
        refine tkn ?_;refine tk [37] ?_;refine tkt (v:=?_) ?_ ?_;rotate_left
        .intro w' d;obtain⟨⟨s0,s1⟩,s2,u,x⟩:=n.out w' d;go_simp<;>with_reducible rfl
        try simp only[pS]
        refine tkn ?_;refine wpAnyH_done (by kernel_rfl) ?_ _;go_wp2_with fail;go_meet;exact⟨jH D,m⟩
       obtain⟨g,o,la,fc,sa,sc,rfl,Z,X,q1,Q,al⟩:=(L.out wr bX).2.2.1.get hA.1;obtain⟨g',o',lb,gc,sb,tc,e9,ca,r0,r1,r2,bm⟩:=(L.out wr bX).2.2.1.get hB.1;cases e9
       have aa:=bP (fun(w':World) (q:Below wr.heap.size wr w')=>And.intro (L.out w' q).1 (And.intro (ak.out w' q).1 (show(w'.cell? ⟨g,o+f*3,none⟩=some (.string A.name)/\w'.cell? ⟨g,o+f*3+1,none⟩=some (.slice la A.letters.length fc)/\w'.cell? ⟨g,o+f*3+2,none⟩=some (.slice sa A.small.length sc))/\
         w'.cell? ⟨g,o+t*3,none⟩=some (.string B.name)/\w'.cell? ⟨g,o+t*3+1,none⟩=some (.slice lb B.letters.length gc)/\w'.cell? ⟨g,o+t*3+2,none⟩=some (.slice sb B.small.length tc)from
        ⟨⟨(q.cell (p:=⟨g,_,none⟩) Z).trans X,(q.cell (p:=⟨g,_,none⟩) Z).trans q1,(q.cell (p:=⟨g,_,none⟩) Z).trans Q⟩,(q.cell (p:=⟨g,_,none⟩) Z).trans r0,(q.cell (p:=⟨g,_,none⟩) Z).trans r1,(q.cell (p:=⟨g,_,none⟩) Z).trans r2⟩)))
       have HV:=bP (fun(w':World) (q:Below wr.heap.size wr w')=>qT r A B _ _ _ w' (ak.out w' q).2 ((al.below q bW).more q.size) ((bm.below q bW).more q.size));clear X q1 Q al r0 r1 r2 bm n;by_cases hV:dr r A B
       .have D:RlQ b k r:=I.2 ⟨V,af,hV⟩;clear V I;have l:Below wr.heap.size wr _:=Go.below_drewN R.out 1;refine tk [0,1,2,3,4,5,6,7,8,9,10,11,12,13,14,16] ?_;repeat ((refine tkt (v:=?_) ?_ ?_;rotate_left;·intro w' d;obtain⟨⟨s0,s1⟩,⟨s2,u,x⟩,⟨s5,s6,s7⟩,s8,s9,aq⟩:=aa.out w' d;go_simp<;>with_reducible rfl);try simp only[pS])
        refine tkn ?_;refine rd1 15 (fun K hK=>?_);go_simp;go_at_call 82;refine(aF.out _ (l)).mono ?_;rintro e P ⟨rfl,y⟩;rw[af];have m:=Below.trans (l) (y.mono (Below.size (l)));refine hK.out _ _ m (fun _=>?_);clear hK K;try simp only[pS]
        refine tk [17,18,19,20,21,22,23,24,25,26,27,28,29,30,31,32,33,34] ?_;repeat ((refine tkt (v:=?_) ?_ ?_;rotate_left;·intro w' d;obtain⟨⟨s0,s1⟩,⟨s2,u,x⟩,⟨s5,s6,s7⟩,s8,s9,aq⟩:=aa.out w' d;go_simp<;>with_reducible rfl);try simp only[pS])
        refine tkn ?_;refine rd1 35 (fun K hK=>?_);go_simp;go_at_call 83;refine(HV.out _ (m)).mono ?_;rintro e aC ⟨rfl,G⟩;rw[decide_eq_true hV];have E:=Below.trans (m) (G.mono (Below.size (m)));refine hK.out _ _ E (fun _=>?_);clear hK K;try simp only[pS]
        refine tk [36,37] ?_;repeat ((refine tkt (v:=?_) ?_ ?_;rotate_left;·intro w' d;obtain⟨⟨s0,s1⟩,⟨s2,u,x⟩,⟨s5,s6,s7⟩,s8,s9,aq⟩:=aa.out w' d;go_simp<;>with_reducible rfl);try simp only[pS])
        refine tkn ?_;refine wpAnyH_done (by kernel_rfl) ?_ _;go_wp2_with fail;go_meet;exact⟨xn D,E⟩
       .have D:¬RlQ b k r:=fun h=>hV (I.1 h).2.2;clear V I;have l:Below wr.heap.size wr _:=Go.below_drewN R.out 1;refine tk [0,1,2,3,4,5,6,7,8,9,10,11,12,13,14,16] ?_;repeat ((refine tkt (v:=?_) ?_ ?_;rotate_left;·intro w' d;obtain⟨⟨s0,s1⟩,⟨s2,u,x⟩,⟨s5,s6,s7⟩,s8,s9,aq⟩:=aa.out w' d;go_simp<;>with_reducible rfl);try simp only[pS])
        refine tkn ?_;refine rd1 15 (fun K hK=>?_);go_simp;go_at_call 82;refine(aF.out _ (l)).mono ?_;rintro e P ⟨rfl,y⟩;rw[af];have m:=Below.trans (l) (y.mono (Below.size (l)));refine hK.out _ _ m (fun _=>?_);clear hK K;try simp only[pS]
        refine tk [17,18,19,20,21,22,23,24,25,26,27,28,29,30,31,32,33,34] ?_;repeat ((refine tkt (v:=?_) ?_ ?_;rotate_left;·intro w' d;obtain⟨⟨s0,s1⟩,⟨s2,u,x⟩,⟨s5,s6,s7⟩,s8,s9,aq⟩:=aa.out w' d;go_simp<;>with_reducible rfl);try simp only[pS])
        refine tkn ?_;refine rd1 35 (fun K hK=>?_);go_simp;go_at_call 83;refine(HV.out _ (m)).mono ?_;rintro e aC ⟨rfl,G⟩;rw[decide_eq_false hV];have E:=Below.trans (m) (G.mono (Below.size (m)));refine hK.out _ _ E (fun _=>?_);clear hK K;try simp only[pS]
        refine tk [36,37] ?_;repeat ((refine tkt (v:=?_) ?_ ?_;rotate_left;·intro w' d;obtain⟨⟨s0,s1⟩,⟨s2,u,x⟩,⟨s5,s6,s7⟩,s8,s9,aq⟩:=aa.out w' d;go_simp<;>with_reducible rfl);try simp only[pS])
        refine tkn ?_;refine wpAnyH_done (by kernel_rfl) ?_ _;go_wp2_with fail;go_meet;exact⟨jH D,E⟩
      case rest=>
       obtain⟨rfl,U⟩:=hcut;have HE:=bP (F.out.2.trans (U.mono F.out.2.size));have aH:=bP (M.out.trans (U.mono M.out.size));clear U;by_cases D:RlQ b k r
       .rw[decide_eq_true D];have HN:=bP (show fO b (b.rules.take (k+1))from by
         obtain⟨f,t,A,B,h1,h2,h3,h4,h5⟩:=D;exact F.out.1.bM be.out h1 h2 h3 h4 h5)
        clear D;go_wp2_with fail;exact⟨⟨k+1,by omega,by go_num,HN.out,HE.out⟩,by simp[intOf];omega⟩
       .rw[decide_eq_false D];have Y:=bP (show¬cU b from fun h=>by
         obtain⟨f,t,A,B,h1,h2,h3,h4,_,_,h5⟩:=h.rls.at h.scr.names be.out;exact D ⟨f,t,A,B,h1,h2,h3,h5,h4⟩)
        clear D;go_wp2_with fail;go_ret;exact⟨cj Y.out,aH.out⟩
  obtain⟨A,T⟩:∃A,b.ae[k]?=some A:=⟨_,getElem?_eq_getElem ao⟩;obtain⟨g,o,la,fc,sa,sc,rfl,Z,X,q1,Q,al⟩:=aO.get T;have bd:=bP T;have n:=bP (fun(w':World) (q:Below wr.heap.size wr w')=>And.intro (HF.out w' (F.out.2.trans (q.mono F.out.2.size))).1 (show w'.cell? ⟨g,o+k*3,none⟩=some (.string A.name)/\w'.cell? ⟨g,o+k*3+1,none⟩=some (.slice la A.letters.length fc)/\w'.cell? ⟨g,o+k*3+2,none⟩=some (.slice sa A.small.length sc)from
   ⟨(q.cell (p:=⟨g,_,none⟩) Z).trans X,(q.cell (p:=⟨g,_,none⟩) Z).trans q1,(q.cell (p:=⟨g,_,none⟩) Z).trans Q⟩))
  have az:=bP (fun(w':World) (q:Below wr.heap.size wr w')=>jm A _ w' ((al.below q bW).more q.size));have ab:=bP (fun(w':World) (q:Below wr.heap.size wr w')=>(show Calls prog 81 #[.agg #[.slice (some ⟨g,o,none⟩) b.ae.length c,.slice a' b.rules.length c'],.string A.name] w' (fun e w5=>e= .returned (.int .i64 (dF b A.name))/\Below w'.heap.size w' w5)from by
   have:=qQ b vb A.name w' (HF.out w' (F.out.2.trans (q.mono F.out.2.size))).2.1;rw[aA.out]at this;exact this))
  have M:=bP H;clear T ag aO X q1 Q al H;go_upto_region 6 with (fail);clear m0 m1;go_cut [43] (fun v wx=>v= .bool (!decide (cG A/\dF b A.name=k))/\Below wr.heap.size wr wx);case first=>
   refine wp_region_held_drew (S:=fun w'=>Below wr.heap.size wr w') (by kernel_rfl) (Go.below_drewN (Below.refl _ wr) 1) (fun ai=>?_);by_cases ad:cG A;case neg=>
    have l:Below wr.heap.size wr _:=Go.below_drewN (Below.refl _ wr) 1;refine tk [0,1,2,3,4] ?_;repeat ((refine tkt (v:=?_) ?_ ?_;rotate_left;·intro w' d;obtain⟨⟨s0,s1⟩,s2,u,x⟩:=n.out w' d;go_simp<;>with_reducible rfl);try simp only[pS])
    refine tkn ?_;refine rd1 5 (fun K hK=>?_);go_simp;go_at_call 80;refine(az.out _ (l)).mono ?_;rintro e P ⟨rfl,y⟩;rw[decide_eq_false ad];have m:=Below.trans (l) (y.mono (Below.size (l)));refine hK.out _ _ m (fun _=>?_);clear hK K;try simp only[pS]
    refine tk [6,7] ?_;repeat ((refine tkt (v:=?_) ?_ ?_;rotate_left;·intro w' d;obtain⟨⟨s0,s1⟩,s2,u,x⟩:=n.out w' d;go_simp<;>with_reducible rfl);try simp only[pS])
    refine tkn ?_;refine tk [8,9,10,11,12,13,14,15,16,17] ?_;repeat ((refine tkl ?_);try simp only[pS])
    refine tkn ?_;refine tk [18] ?_;refine tkt (v:=?_) ?_ ?_;rotate_left
    .intro w' d;obtain⟨⟨s0,s1⟩,s2,u,x⟩:=n.out w' d;go_simp<;>with_reducible rfl
    try simp only[pS]
    refine tkn ?_;refine wpAnyH_done (by kernel_rfl) ?_ _;go_wp2_with fail;go_meet;exact⟨jH (fun h=>ad h.1),m⟩
   rcases gn b A.name with ⟨s1, -⟩ |⟨j,C, -,cc,s1⟩
   .have bq:((-1:Int) != (k:Int))=true:=by first |(simp;done) |(simp;omega)
    have D:¬(cG A/\dF b A.name=k):=fun h=>by have:=h.2;omega
    have l:Below wr.heap.size wr _:=Go.below_drewN (Below.refl _ wr) 1;refine tk [0,1,2,3,4] ?_;repeat ((refine tkt (v:=?_) ?_ ?_;rotate_left;·intro w' d;obtain⟨⟨s0,s1⟩,s2,u,x⟩:=n.out w' d;go_simp<;>with_reducible rfl);try simp only[pS])
    refine tkn ?_;refine rd1 5 (fun K hK=>?_);go_simp;go_at_call 80;refine(az.out _ (l)).mono ?_;rintro e P ⟨rfl,y⟩;rw[decide_eq_true ad];have m:=Below.trans (l) (y.mono (Below.size (l)));refine hK.out _ _ m (fun _=>?_);clear hK K;try simp only[pS]
    refine tk [6,7,8,9,10,11,12,13,14,16] ?_;repeat ((refine tkt (v:=?_) ?_ ?_;rotate_left;·intro w' d;obtain⟨⟨s0,s1⟩,s2,u,x⟩:=n.out w' d;go_simp<;>with_reducible rfl);try simp only[pS])
    refine tkn ?_;refine rd1 15 (fun K hK=>?_);go_simp;go_at_call 81;refine(ab.out _ (m)).mono ?_;rintro e aC ⟨rfl,G⟩;rw[s1];have E:=Below.trans (m) (G.mono (Below.size (m)));refine hK.out _ _ E (fun _=>?_);clear hK K;try simp only[pS]
    refine tk [17,18] ?_;repeat ((refine tkt (v:=?_) ?_ ?_;rotate_left;·intro w' d;obtain⟨⟨s0,s1⟩,s2,u,x⟩:=n.out w' d;go_simp<;>with_reducible rfl);try simp only[pS])
    refine tkn ?_;refine wpAnyH_done (by kernel_rfl) ?_ _;go_wp2_with fail;go_meet;exact⟨jH D,E⟩
   .by_cases bR:j=k
    .subst bR;have bq:((j:Int) != (j:Int))=false:=by simp
     have D:cG A/\dF b A.name=j:=⟨ad,s1⟩;have l:Below wr.heap.size wr _:=Go.below_drewN (Below.refl _ wr) 1;refine tk [0,1,2,3,4] ?_;repeat ((refine tkt (v:=?_) ?_ ?_;rotate_left;·intro w' d;obtain⟨⟨s0,s1⟩,s2,u,x⟩:=n.out w' d;go_simp<;>with_reducible rfl);try simp only[pS])
     refine tkn ?_;refine rd1 5 (fun K hK=>?_);go_simp;go_at_call 80;refine(az.out _ (l)).mono ?_;rintro e P ⟨rfl,y⟩;rw[decide_eq_true ad];have m:=Below.trans (l) (y.mono (Below.size (l)));refine hK.out _ _ m (fun _=>?_);clear hK K;try simp only[pS]
     refine tk [6,7,8,9,10,11,12,13,14,16] ?_;repeat ((refine tkt (v:=?_) ?_ ?_;rotate_left;·intro w' d;obtain⟨⟨s0,s1⟩,s2,u,x⟩:=n.out w' d;go_simp<;>with_reducible rfl);try simp only[pS])
     refine tkn ?_;refine rd1 15 (fun K hK=>?_);go_simp;go_at_call 81;refine(ab.out _ (m)).mono ?_;rintro e aC ⟨rfl,G⟩;rw[s1];have E:=Below.trans (m) (G.mono (Below.size (m)));refine hK.out _ _ E (fun _=>?_);clear hK K;try simp only[pS]
     refine tk [17,18] ?_;repeat ((refine tkt (v:=?_) ?_ ?_;rotate_left;·intro w' d;obtain⟨⟨s0,s1⟩,s2,u,x⟩:=n.out w' d;go_simp<;>with_reducible rfl);try simp only[pS])
     refine tkn ?_;refine wpAnyH_done (by kernel_rfl) ?_ _;go_wp2_with fail;go_meet;exact⟨xn D,E⟩
    .have bq:((j:Int) != (k:Int))=true:=by first |(simp;done) |(simp;omega)
     have D:¬(cG A/\dF b A.name=k):=fun h=>by have:=h.2;omega
     have l:Below wr.heap.size wr _:=Go.below_drewN (Below.refl _ wr) 1;refine tk [0,1,2,3,4] ?_;repeat ((refine tkt (v:=?_) ?_ ?_;rotate_left;·intro w' d;obtain⟨⟨s0,s1⟩,s2,u,x⟩:=n.out w' d;go_simp<;>with_reducible rfl);try simp only[pS])
     refine tkn ?_;refine rd1 5 (fun K hK=>?_);go_simp;go_at_call 80;refine(az.out _ (l)).mono ?_;rintro e P ⟨rfl,y⟩;rw[decide_eq_true ad];have m:=Below.trans (l) (y.mono (Below.size (l)));refine hK.out _ _ m (fun _=>?_);clear hK K;try simp only[pS]
     refine tk [6,7,8,9,10,11,12,13,14,16] ?_;repeat ((refine tkt (v:=?_) ?_ ?_;rotate_left;·intro w' d;obtain⟨⟨s0,s1⟩,s2,u,x⟩:=n.out w' d;go_simp<;>with_reducible rfl);try simp only[pS])
     refine tkn ?_;refine rd1 15 (fun K hK=>?_);go_simp;go_at_call 81;refine(ab.out _ (m)).mono ?_;rintro e aC ⟨rfl,G⟩;rw[s1];have E:=Below.trans (m) (G.mono (Below.size (m)));refine hK.out _ _ E (fun _=>?_);clear hK K;try simp only[pS]
     refine tk [17,18] ?_;repeat ((refine tkt (v:=?_) ?_ ?_;rotate_left;·intro w' d;obtain⟨⟨s0,s1⟩,s2,u,x⟩:=n.out w' d;go_simp<;>with_reducible rfl);try simp only[pS])
     refine tkn ?_;refine wpAnyH_done (by kernel_rfl) ?_ _;go_wp2_with fail;go_meet;exact⟨jH D,E⟩
  case rest=>
   obtain⟨rfl,U⟩:=hcut;have HE:=bP (F.out.2.trans (U.mono F.out.2.size));have aH:=bP (M.out.trans (U.mono M.out.size));clear U;by_cases D:cG A/\dF b A.name=k
   .rw[decide_eq_true D];have HN:=bP (F.out.1.step bd.out D.1 D.2);clear D;go_wp2_with fail;exact⟨⟨k+1,by omega,by go_num,HN.out,HE.out⟩,by simp[intOf];omega⟩
   .rw[decide_eq_false D];have Y:=bP (show¬cU b from fun h=>D (h.scr.self bd.out));clear D;go_wp2_with fail;go_ret;exact⟨cj Y.out,aH.out⟩
end
end Go.Proofs.YtmhdgddjeadjjaaGreatDoor
