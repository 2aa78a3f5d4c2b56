/- RY -/
import Derived.Test.YtmhdgddjeadjjaaGreatDoorP32
namespace Go.Proofs.YtmhdgddjeadjjaaGreatDoor
open _root_.List Go.Lib _root_.Nat Go.World _root_.Int Go.Proofs.Tryz
variable {M:List Spl}{c:Nat}{w w1:World}
section
open Go.RowKit Go.Shelf Classical
theorem jK {l:List Sht}{W:List ByteArray}{w':World}{err:Int}(a:dq l W [] err)(b:Below w.heap.size w w'):gW l W w (.returned (.tuple #[.slice none 0 0,.int .i64 err])) w':=
 ⟨_,[],err,rfl,a,ownsRow_nil _ _ _ _,by simp,b⟩
theorem pH:∀{X:List Spl} {k:Nat} {x:Spl},X[k]?=some x->(X.flatMap Spl.cells)[k*2]?=some (.slice x.at_ x.ws.length x.cap)/\(X.flatMap Spl.cells)[k*2+ 1]?=some (.int .i64 x.cost)
 |[],k,x,h=>by simp at h
 |y::X,0,x,h=>by
  obtain rfl:y=x:=by simpa using h
  exact⟨rfl,rfl⟩
 |y::X,k+1,x,h=>by
  have b:=pH (X:=X) (k:=k) (x:=x) (by simpa using h);have a:y.cells.length=2:=rfl;rw[flatMap_cons,getElem?_append_right (by omega),getElem?_append_right (by omega),a,show(k+1)*2-2=k*2 by omega,show(k+1)*2+1-2=k*2+1 by omega];exact b
theorem qd {base n:Nat}{l:Option Addr}{X:List Spl}(h:w.ownsRow base 48 2 (.slice l n c) n (X.flatMap Spl.cells))(y:0<X.length):
  ∃g,l=some ⟨g,0,none⟩/\base<=g/\g<w.heap.size/\∀(k:Nat) (x:Spl),X[k]?=some x->w.cell? ⟨g,k*2,none⟩=some (.slice x.at_ x.ws.length x.cap)/\w.cell? ⟨g,k*2+1,none⟩=some (.int .i64 x.cost)/\
   w.frozen? ⟨g,k*2,none⟩=false/\w.frozen? ⟨g,k*2+1,none⟩=false:=by
 have hk:∀x:Spl,x.cells.length=2:=fun _=>rfl;have hlen:=iN hk X;obtain⟨a,q,m, -,o⟩:=b8.ah h;cases m
 rcases h.2 with ⟨e,r⟩ |⟨g,cap,cur,e,h1,d,s,t,u,v⟩
 .have:=h.1;rw[hlen]at this;omega
 cases e
 have j:=(Blk.lt (show Blk w g cur _ from d));refine⟨g,rfl,h1,j,fun k x f=>?_⟩;obtain⟨b,off,e,_,i⟩:=o (by rw[hlen];omega);cases e
 obtain⟨p,ex⟩:=List.getElem?_eq_some_iff.1 f;refine⟨?_,?_,Blk.frozen (show Blk w g cur _ from d) _,Blk.frozen (show Blk w g cur _ from d) _⟩
 .have:=i (k*2) (.slice x.at_ x.ws.length x.cap) (pH f).1;rwa [Nat.zero_add]at this
 .have:=i (k*2+1) (.int .i64 x.cost) (pH f).2;rwa [Nat.zero_add]at this
theorem fb.setCell {base d n m r g k:Nat}{xs:List Value}(h:fb w base n M)(i:w.ownsRow d 48 2 (.slice (some ⟨g,0,none⟩) m c) r xs)(u:Value):fb (w.setCell ⟨g,k,none⟩ u) base n M:=fun x o=>by
 obtain⟨h1,e,f,b⟩:=h x o;refine⟨h1,e,f,fj b (Chg.setCell (S:=fun j=>j=g) (p:=⟨g,k,none⟩) w (.inl rfl) u) (fun g' a l=>?_)⟩;rcases own_ne b i (by decide)with q |q
 .rw[q]at a;cases a
 .exact q (a.trans (by rw[l];rfl))
theorem oi {b n m g k:Nat}{Y:List Spl}{x:Spl}(a:w.ownsRow b 48 2 (.slice (some ⟨g,0,none⟩) m c) m (Y.flatMap Spl.cells))(f:fb w b n M)(i:Below b w1 w)(hk:k<Y.length):
  ((w.setCell ⟨g,k*2,none⟩ (.slice x.at_ x.ws.length x.cap)).setCell ⟨g,k*2+1,none⟩ (.int .i64 x.cost)).ownsRow b 48 2 (.slice (some ⟨g,0,none⟩) m c) m ((Y.set k x).flatMap Spl.cells)/\
  fb ((w.setCell ⟨g,k*2,none⟩ (.slice x.at_ x.ws.length x.cap)).setCell ⟨g,k*2+1,none⟩ (.int .i64 x.cost)) b n M/\
  Below b w1 ((w.setCell ⟨g,k*2,none⟩ (.slice x.at_ x.ws.length x.cap)).setCell ⟨g,k*2+1,none⟩ (.int .i64 x.cost)):=by
 have h1:=oj (k:=k*2) a (.slice x.at_ x.ws.length x.cap);have d:=oj (k:=k*2+1) h1 (.int .i64 x.cost);rw[tW x hk]at d;have e:b<=g:=(a.lt g rfl).1;exact⟨d,(f.setCell a _).setCell h1 _,(i.setCell (p:=⟨g,k*2,none⟩) e _).setCell (p:=⟨g,k*2+1,none⟩) e _⟩
theorem fb.perm {b n:Nat}{N:List Spl}(h:fb w b n M)(hp:N.Perm M):fb w b n N:=fun x a=>h x (hp.mem_iff.1 a)
theorem gr.drewN {wr:World}{n:Nat}{v:Value}(h:gr w1 n v M wr)(q:Nat):gr w1 n v M (wr.drewN q):=
 ⟨Go.below_drewN h.below q,cJ h.own (Go.below_drewN (Below.refl _ wr) q),h.each.below (Go.below_drewN (Below.refl _ wr) q)⟩
theorem gr.bF {wr b:World}{n:Nat}{v:Value}(h:gr w1 n v M wr)(j:n<=12)(f:M.length<=1000)(g:Below wr.heap.size wr b)(a2:Option Addr)(c2:Nat)(ws:List ByteArray)(t:ByteArray)(c:Int)(i:ws.length+1=n)(d:0<=c)(h1:c<=1000*(n:Int))(k:b.ownsRow w1.heap.size 9 1 (.slice a2 (ws++[t]).length c2) (ws++[t]).length (strs (ws++[t]))):
  Calls prog 39 #[v,.agg #[.slice a2 (ws.length+1) c2,.int .i64 c]] b fun e w'=>∃v' M',e= .returned v'/\gr w1 n v' M' w'/\oY (M.map Spl.key) (ws++[t]) c (M'.map Spl.key)/\M'.length<=M.length+1:=by
 have a:(ws++[t]).length=ws.length+1:=by rw[length_append];rfl
 have q:=h.call j f g ⟨a2,c2,ws++[t],c⟩ (fun y l=>by
  obtain rfl:=mem_singleton.1 l;exact⟨by rw[<-i];exact a,d,h1,k⟩)
 rw[show(⟨a2,c2,ws++[t],c⟩:Spl).v= .agg #[.slice a2 (ws.length+1) c2,.int .i64 c]from by rw[<-a];rfl]at q;exact q
set_option maxRecDepth 100000
set_option maxHeartbeats 20000000
theorem zj (l:List Sht)(W:List ByteArray)(la wa:Option Addr)(lc wc:Nat)(dz:l.length<=1000)(bL:∀s∈l,s.lang.size<=1000/\s.short.size<=1000/\s.full.size<=1000)(eb:W.length<=1000)(cD:∀s∈W,s.size<=1000000)(w:World)(bO:c8 w w.heap.size 4 la (l.map Sht.cells))(cS:b8 w w.heap.size wa (strs W)):
  Calls prog 10 #[.slice la l.length lc,.slice wa W.length wc] w (gW l W w):=by
 obtain⟨i0,hi,ad,ae,af⟩:=info_parts fP;have HR:=bP (fun(wr:World) (H:Below w.heap.size w wr)=>(show c8 wr wr.heap.size 4 la (l.map Sht.cells)/\b8 wr wr.heap.size wa (strs W)from
  ⟨(bO.below H bW).more H.size,(cS.below H bW).more H.size⟩))
 have aR:=qy l la lc dz bL w bO;have dj:=bP cD;clear bO cS cD bL;go_enter func10,ntmps10;by_cases hP:dS l;case neg=>
  rw[decide_eq_false hP]at aR;have HB:=bP (show dq l W [] 1 from .inl ⟨fun h=>hP h.1,rfl,rfl⟩);have aZ:=bP aR;clear aR hP;go_wp2_with fail;refine aZ.out.mono ?_;rintro e w1 ⟨rfl,q,hq⟩;have Hq:=bP hq;clear hq;go_wp2_with fail;go_ret2;exact jK HB.out (by rw[Hq.out];exact Go.below_drewN bX q)
 rw[decide_eq_true hP]at aR;have aZ:=bP aR;have HP:=bP hP;have dL:l.length<=100:=hP.most;clear aR hP;by_cases aU:1<=W.length/\W.length<=12;case neg=>
  have HB:=bP (show dq l W [] 1 from .inl ⟨fun h=>aU ⟨h.2.1,h.2.2.1⟩,rfl,rfl⟩);go_wp2_with fail;refine aZ.out.mono ?_;rintro e w1 ⟨rfl,q,hq⟩;have Hq:=bP hq;clear hq;by_cases cB:1<=W.length
  .have bb:12<W.length:=by omega
   clear aU;go_wp2_with fail;go_ret2;exact jK HB.out (by rw[Hq.out];exact Go.below_drewN bX q)
  .have bb:W.length=0:=by omega
   clear aU;go_wp2_with fail;go_ret2;exact jK HB.out (by rw[Hq.out];exact Go.below_drewN bX q)
 obtain⟨cB,bb⟩:=aU;go_wp2_with fail;refine aZ.out.mono ?_;rintro e w1 ⟨rfl,q,hq⟩;have dk:=bP (show Below w.heap.size w w1 from by rw[hq];exact Go.below_drewN bX q);clear hq aZ;go_wp2_with fail;go_loopw [6] (fun i wr=>∃k:Nat,k<=W.length/\i= .int .i64 k/\(∀(a:Nat) s,a<k->W[a]?=some s->eY s 120)/\Below w.heap.size w wr) (fun i _=>W.length-(intOf i).toNat);case atStart=>exact⟨0,zero_le _,rfl,by simp,dk.out⟩
 case round=>
  obtain⟨k,hk,rfl,hD,aj⟩:=hrel;have I:=bQ hD aj;clear hD aj;by_cases aP:k<W.length
  .obtain⟨b,o,rfl,ed,hc⟩:=(HR.out wr I.out.2).2.strs (by omega);obtain⟨t,ht⟩:∃t,W[k]=t:=⟨_,rfl⟩;have c1:=hc k aP;rw[ht]at c1;have bV:W[k]?=some t:=by rw[getElem?_eq_getElem aP,ht]
   have hd:=ou t (dj.out t (mem_of_getElem? bV)) 120 (by omega) wr;have a6:=bP bV;clear hc ht bV;by_cases p:eY t 120;case neg=>
    rw[decide_eq_false p]at hd;have HD:=bP hd;have HB:=bP (show dq l W [] 1 from .inl ⟨fun h=>p (h.2.2.2 t (mem_of_getElem? a6.out)),rfl,rfl⟩);clear p hd;go_wp2_with fail;refine HD.out.mono ?_;rintro e w2 ⟨rfl,rfl⟩;go_wp2_with fail;go_ret2;exact jK HB.out I.out.2
   rw[decide_eq_true p]at hd;have HD:=bP hd;have HN:=bP (show∀(a:Nat) s,a<k+1->W[a]?=some s->eY s 120 from fun a s ha hs=>by
    rcases Nat.lt_succ_iff_lt_or_eq.1 ha with h |rfl
    .exact I.out.1 a s h hs
    .rw[a6.out]at hs;rw[<-Option.some.inj hs];exact p)
   clear p hd;go_wp2_with fail;refine HD.out.mono ?_;rintro e w2 ⟨rfl,rfl⟩;go_wp2_with fail;exact⟨⟨k+1,by omega,by go_num,HN.out,I.out.2⟩,by simp[intOf];omega⟩
  obtain rfl:k=W.length:=by omega
  have ct:=bP (show Plain W from⟨cB,bb,fun s hs=>by
   obtain⟨a,ha⟩:=getElem?_of_mem hs;exact I.out.1 a s (List.getElem?_eq_some_iff.1 ha).1 ha⟩)
  have bD:=bP I.out.2;clear I;go_upto_region 9 with (fail);generalize cC:(wr.alloc _)=W8;have cu:=bP (show W8.ownsRow w.heap.size 48 2 (.slice (some ⟨wr.heap.size,0,none⟩) 1 1) 1 ([(⟨none,0,[],0⟩:Spl)].flatMap Spl.cells)/\Below w.heap.size w W8 from by
   rw[<-cC];exact⟨cP (xr wr _ _ _) bD.out.size,bD.out.alloc bD.out.size _⟩)
  clear cC;go_wp2_with fail;go_loopw [7,8] (fun a i wr=>∃(k:Nat) (L:List Spl) (va:Option Addr) (vc:Nat),k<=W.length/\i= .int .i64 k/\a= .slice va L.length vc/\L.length<=64/\((L.map Spl.key).map (·.1)).Nodup/\(L.map Spl.key).Perm (ep (dN l (W.take k)) [] 0)/\
   wr.ownsRow w.heap.size 48 2 (.slice va L.length vc) L.length (L.flatMap Spl.cells)/\fb wr w.heap.size k L/\Below w.heap.size w wr) (fun _ i _=>W.length-(intOf i).toNat)
  case atStart=>
   refine⟨0,[⟨none,0,[],0⟩],_,_,zero_le _,rfl,rfl,by simp,by simp,?_,cu.out.1,fun x hx=>?_,cu.out.2⟩
   .rw[take_zero];exact List.Perm.refl _
   .obtain rfl:=mem_singleton.1 hx;exact⟨rfl,Int.le_refl _,Int.le_refl _,ownsRow_nil _ _ _ _⟩
  case round=>
   obtain⟨k,L,va,vc,hk,rfl,rfl,da,cO,b7,al,aA,aj⟩:=hrel;have I:=bU cO b7 al aA aj;clear cO b7 al aA aj;by_cases aP:k<W.length;case neg=>
    obtain rfl:k=W.length:=by omega
    have HF:=bP (show(L.map Spl.key).Perm (ep (dN l W) [] 0)from by have:=I.out.2.1;rwa [take_length]at this);have HO:=bS I.out.2.2.1 I.out.2.2.2.1 I.out.2.2.2.2;clear I;go_wp2_with fail;go_loopw [12] (fun i wx=>∃(n:Nat) (X:List Spl),n<=L.length/\i= .int .i64 n/\kG L X n/\wx.ownsRow w.heap.size 48 2 (.slice va L.length vc) L.length (X.flatMap Spl.cells)/\fb wx w.heap.size W.length X/\Below w.heap.size w wx) (fun i _=>L.length-(intOf i).toNat);case atStart=>exact⟨0,L,zero_le _,rfl,kG.start L,HO.out.1,HO.out.2.1,HO.out.2.2⟩
    case round=>
     obtain⟨n,X,hn,rfl,cQ,al,aA,aj⟩:=hrel;have I:=bT cQ al aA aj;clear cQ al aA aj;by_cases ee:n<L.length;case neg=>
      obtain rfl:n=L.length:=by omega
      have cE:X.length=L.length:=I.out.1.1.length_eq;have N:=bP (show gW l W w (.returned (.tuple #[.slice va L.length vc,.int .i64 0])) wr from⟨_,X,0,rfl,Dd HP.out ct.out HF.out (by rw[length_map];exact da) (I.out.1.1.map Spl.key) (I.out.1.done bW),by rw[cE];exact I.out.2.1,fun x hx=>by
       obtain⟨q1,_,_,q4⟩:=I.out.2.2.1 x hx;exact⟨by unfold maxLen;omega,q4⟩,I.out.2.2.2⟩)
      clear cE;go_wp2_with fail;go_ret2;exact N.out
     go_wp2_with fail;go_loopw [13] (fun i wx=>∃(q:Nat) (Y:List Spl),i= .int .i64 q/\lE L Y n q/\wx.ownsRow w.heap.size 48 2 (.slice va L.length vc) L.length (Y.flatMap Spl.cells)/\fb wx w.heap.size W.length Y/\Below w.heap.size w wx) (fun i _=>(intOf i).toNat);case atStart=>exact⟨n,X,rfl,I.out.1.go,I.out.2.1,I.out.2.2.1,I.out.2.2.2⟩
     case round=>
      obtain⟨q,Y,rfl,cR,al,aA,aj⟩:=hrel;have P:=bT cR al aA aj;clear cR al aA aj;rcases eq_zero_or_pos q with rfl |eh
      .have N:=bP P.out.1.top;go_wp2_with fail;go_quiet (fail);go_wp2_with fail;exact⟨⟨n+1,Y,by omega,by go_num,N.out,P.out.2.1,P.out.2.2.1,Go.below_drewN P.out.2.2.2 _⟩,by simp[intOf];omega⟩
      obtain⟨p,rfl⟩:∃p,q=p+1:=⟨q-1,by omega⟩;have ec:Y.length=L.length:=P.out.1.1.length_eq;have dA:p+1<Y.length:=by have:=P.out.1.2.1;omega
      obtain⟨x0,aC⟩:∃x,Y[p+ 1]?=some x:=⟨_,getElem?_eq_getElem dA⟩;obtain⟨x1,aL⟩:∃x,Y[p]?=some x:=⟨_,getElem?_eq_getElem (by omega)⟩;obtain⟨g,rfl,cM,aB,ay⟩:=qd P.out.2.1 (by omega);have aa:=bP (fun(w':World) (H:Below wr.heap.size wr w')=>(show(w'.cell? ⟨g,(p+1)*2,none⟩=some (.slice x0.at_ x0.ws.length x0.cap)/\w'.cell? ⟨g,(p+1)*2+1,none⟩=some (.int .i64 x0.cost))/\w'.cell? ⟨g,p*2,none⟩=some (.slice x1.at_ x1.ws.length x1.cap)/\w'.cell? ⟨g,p*2+1,none⟩=some (.int .i64 x1.cost)from
       ⟨⟨(H.cell (p:=⟨g,_,none⟩) aB).trans (ay _ _ aC).1,(H.cell (p:=⟨g,_,none⟩) aB).trans (ay _ _ aC).2.1⟩,(H.cell (p:=⟨g,_,none⟩) aB).trans (ay _ _ aL).1,(H.cell (p:=⟨g,_,none⟩) aB).trans (ay _ _ aL).2.1⟩))
      have HL:=bP (fun(w':World) (H:Below wr.heap.size wr w')=>BX x0 x1 w' ((P.out.2.2.1.below H).ok bb x0 (mem_of_getElem? aC)) ((P.out.2.2.1.below H).ok bb x1 (mem_of_getElem? aL)) ((P.out.2.2.1 x0 (mem_of_getElem? aC)).1.trans (P.out.2.2.1 x1 (mem_of_getElem? aL)).1.symm));have HX:=bQ aC aL;have d0:decide ((0:Int)<(p:Int)+1)=true:=bZ;have ei:IntKind.i64.wrap (p:Int)=p:=IntWalk.i64_in _ (by omega);have eg:p+1<L.length:=by omega
      have dT:p<L.length:=by omega
      have dQ:(0:Int)<=(p:Int)+1:=by omega
      have dR:(p:Int)+1<(L.length:Int):=by omega
      clear aC aL ay;go_upto_region 29 with (fail);go_cut [147] (fun v wx=>v= .bool (decide (ltX x0.key x1.key))/\Below wr.heap.size wr wx);case first=>
       repeat (rename (∀(a:Act) (w:World),Code.wp _ _ _ a w->_)=>bk;clear bk)
       refine wp_region_held_drew (S:=fun w'=>Below wr.heap.size wr w') (by kernel_rfl) (Go.below_drewN (Below.refl _ wr) 1) (fun aT=>?_);refine tk [0,1,2,3,4,5,6,7,8,9,10,11] ?_;repeat ((refine tkt (v:=?_) ?_ ?_;rotate_left;·intro w' u;obtain⟨⟨s1,s2⟩,s3,s4⟩:=aa.out w' u;go_simp<;>with_reducible rfl);try simp only[pS])
       refine tkn ?_;refine rd1 12 (fun K hK=>?_);go_simp;go_at_call 40;refine(HL.out _ (Go.below_drewN (Below.refl _ wr) 1)).mono ?_;rintro e w5 ⟨rfl,dx⟩;have cF:Below wr.heap.size wr w5:=(Go.below_drewN (Below.refl _ wr) 1).trans dx;refine hK.out _ _ cF (fun _=>?_);clear hK K;try simp only[pS]
       refine tk [13] ?_;refine tkt (v:=?_) ?_ ?_;rotate_left
       .intro w' u;obtain⟨⟨s1,s2⟩,s3,s4⟩:=aa.out w' u;go_simp<;>with_reducible rfl
       try simp only[pS]
       refine tkn ?_;refine wpAnyH_done (by kernel_rfl) ?_ _;go_wp2_with fail;go_meet;exact⟨rfl,cF⟩
      case rest=>
       obtain⟨rfl,ax⟩:=hcut;by_cases aQ:ltX x0.key x1.key;case neg=>
        rw[decide_eq_false aQ];have N:=bT (P.out.1.stop HX.out.1 HX.out.2 aQ) (cJ P.out.2.1 ax) (P.out.2.2.1.below ax) (P.out.2.2.2.trans (ax.mono P.out.2.2.2.size));clear aQ ax;go_wp2_with fail;exact⟨⟨n+1,Y,by omega,by go_num,N.out.1,N.out.2.1,N.out.2.2.1,N.out.2.2.2⟩,by simp[intOf];omega⟩
       rw[decide_eq_true aQ];have N:=bP (P.out.1.step HX.out.1 HX.out.2 aQ);have bq:=cJ P.out.2.1 ax;have bJ:=P.out.2.2.1.below ax;have bK:=P.out.2.2.2.trans (ax.mono P.out.2.2.2.size);have dh:=bP (aa.out wc ax);have ao:=bS bq bJ bK;clear ax bq bJ bK aQ aa HL;go_upto_region 31 with (fail);obtain⟨⟨a0,a1⟩,a2,a3⟩:=dh.out;have b4:wc.frozen? ⟨g,(p+1)*2,none⟩=false:=ao.out.1.frozenAt _;have b5:wc.frozen? ⟨g,(p+1)*2+1,none⟩=false:=ao.out.1.frozenAt _;have e0:wc.drew.cell? ⟨g,(p+1)*2,none⟩=some (.slice x0.at_ x0.ws.length x0.cap):=a0;have e1:wc.drew.cell? ⟨g,(p+1)*2+1,none⟩=some (.int .i64 x0.cost):=a1;have e2:wc.drew.cell? ⟨g,p*2,none⟩=some (.slice x1.at_ x1.ws.length x1.cap):=a2;have e3:wc.drew.cell? ⟨g,p*2+1,none⟩=some (.int .i64 x1.cost):=a3;have f0:wc.drew.frozen? ⟨g,(p+1)*2,none⟩=false:=ao.out.1.frozenAt _;have f1:wc.drew.frozen? ⟨g,(p+1)*2+1,none⟩=false:=ao.out.1.frozenAt _;have dD:True:=trivial;have HT:=bP (fun(w':World) (_:True)=>True.intro);refine wp_region_held_drew (S:=fun _=>True) (by kernel_rfl) trivial (fun aT=>?_);refine tk [0,1,2,3,4,5,6,7,8,10,11,12] ?_;repeat ((refine tkt (v:=?_) ?_ ?_;rotate_left;·intro w' u;obtain⟨⟩:=HT.out w' u;go_simp<;>with_reducible rfl);try simp only[pS])
       refine tkn ?_;refine rd2 9 13 (fun K hK=>?_) (fun K hK=>?_)
       .go_simp;refine hK.out _ _ trivial (fun _=>?_);clear hK K;try simp only[pS]
        refine rd1 13 (fun K hK=>?_);go_simp;refine hK.out _ _ trivial (fun _=>?_);clear hK K;try simp only[pS]
        refine tk [14] ?_;refine tkt (v:=?_) ?_ ?_;rotate_left
        .intro w' u;obtain⟨⟩:=HT.out w' u;go_simp<;>with_reducible rfl
        try simp only[pS]
        refine tkn ?_;refine rd1 15 (fun K hK=>?_);go_simp;refine hK.out _ _ trivial (fun _=>?_);clear hK K;try simp only[pS]
        obtain⟨h1,h2,h3⟩:=oi (x:=x1) ao.out.1 ao.out.2.1 ao.out.2.2 (k:=p+1) (by omega);generalize cc:((wc.setCell ⟨g,(p+1)*2,none⟩ _).setCell ⟨g,(p+1)*2+1,none⟩ _)=w1 at h1 h2 h3⊢;obtain⟨g',e9, -, -,bc⟩:=qd h1 (by rw[length_set];omega);cases e9
        obtain⟨b0,b1, -, -⟩:=bc p x1 (by rw[getElem?_set_ne (by omega)];exact HX.out.2);have e4:w1.drew.cell? ⟨g,p*2,none⟩=some (.slice x1.at_ x1.ws.length x1.cap):=b0;have e5:w1.drew.cell? ⟨g,p*2+1,none⟩=some (.int .i64 x1.cost):=b1;have f4:w1.drew.frozen? ⟨g,p*2,none⟩=false:=h1.frozenAt _;have f5:w1.drew.frozen? ⟨g,p*2+1,none⟩=false:=h1.frozenAt _;have f6:w1.frozen? ⟨g,p*2,none⟩=false:=h1.frozenAt _;have f7:w1.frozen? ⟨g,p*2+1,none⟩=false:=h1.frozenAt _;obtain⟨k1,k2,k3⟩:=oi (x:=x0) h1 h2 h3 (k:=p) (by rw[length_set];omega);have aG:=bS k1 k2 k3;clear cc h1 h2 h3 bc e0 e1 e2 e3 f0 f1 a0 a1 a2 a3 b4 b5 k1 k2 k3;refine tk [16] ?_;refine tkt (v:=?_) ?_ ?_;rotate_left
        .intro w' u;obtain⟨⟩:=HT.out w' u;go_simp<;>with_reducible rfl
        try simp only[pS]
        refine tkn ?_;refine rd1 17 (fun K hK=>?_);go_simp;refine hK.out _ _ trivial (fun _=>?_);clear hK K;try simp only[pS]
        refine wpAnyH_done (by kernel_rfl) ?_ _;go_wp2_with fail;exact⟨⟨p,_,rfl,N.out,aG.out.1,aG.out.2.1.perm (swap_perm HX.out.1 HX.out.2),Go.below_drewN aG.out.2.2 1⟩,by first |(simp[intOf];done) |(simp[intOf];omega)⟩
       .go_simp;refine hK.out _ _ trivial (fun _=>?_);clear hK K;try simp only[pS]
        refine rd1 9 (fun K hK=>?_);go_simp;refine hK.out _ _ trivial (fun _=>?_);clear hK K;try simp only[pS]
        refine tk [14] ?_;refine tkt (v:=?_) ?_ ?_;rotate_left
        .intro w' u;obtain⟨⟩:=HT.out w' u;go_simp<;>with_reducible rfl
        try simp only[pS]
        refine tkn ?_;refine rd1 15 (fun K hK=>?_);go_simp;refine hK.out _ _ trivial (fun _=>?_);clear hK K;try simp only[pS]
        obtain⟨h1,h2,h3⟩:=oi (x:=x1) ao.out.1 ao.out.2.1 ao.out.2.2 (k:=p+1) (by omega);generalize cc:((wc.setCell ⟨g,(p+1)*2,none⟩ _).setCell ⟨g,(p+1)*2+1,none⟩ _)=w1 at h1 h2 h3⊢;obtain⟨g',e9, -, -,bc⟩:=qd h1 (by rw[length_set];omega);cases e9
        obtain⟨b0,b1, -, -⟩:=bc p x1 (by rw[getElem?_set_ne (by omega)];exact HX.out.2);have e4:w1.drew.cell? ⟨g,p*2,none⟩=some (.slice x1.at_ x1.ws.length x1.cap):=b0;have e5:w1.drew.cell? ⟨g,p*2+1,none⟩=some (.int .i64 x1.cost):=b1;have f4:w1.drew.frozen? ⟨g,p*2,none⟩=false:=h1.frozenAt _;have f5:w1.drew.frozen? ⟨g,p*2+1,none⟩=false:=h1.frozenAt _;have f6:w1.frozen? ⟨g,p*2,none⟩=false:=h1.frozenAt _;have f7:w1.frozen? ⟨g,p*2+1,none⟩=false:=h1.frozenAt _;obtain⟨k1,k2,k3⟩:=oi (x:=x0) h1 h2 h3 (k:=p) (by rw[length_set];omega);have aG:=bS k1 k2 k3;clear cc h1 h2 h3 bc e0 e1 e2 e3 f0 f1 a0 a1 a2 a3 b4 b5 k1 k2 k3;refine tk [16] ?_;refine tkt (v:=?_) ?_ ?_;rotate_left
        .intro w' u;obtain⟨⟩:=HT.out w' u;go_simp<;>with_reducible rfl
        try simp only[pS]
        refine tkn ?_;refine rd1 17 (fun K hK=>?_);go_simp;refine hK.out _ _ trivial (fun _=>?_);clear hK K;try simp only[pS]
        refine wpAnyH_done (by kernel_rfl) ?_ _;go_wp2_with fail;exact⟨⟨p,_,rfl,N.out,aG.out.1,aG.out.2.1.perm (swap_perm HX.out.1 HX.out.2),Go.below_drewN aG.out.2.2 1⟩,by first |(simp[intOf];done) |(simp[intOf];omega)⟩
   obtain⟨R,rfl⟩:∃R:World,R=wr:=⟨_,rfl⟩;obtain⟨t,ht⟩:∃t,W[k]=t:=⟨_,rfl⟩;have a6:=bP (show W[k]?=some t from by rw[getElem?_eq_getElem aP,ht]);clear ht;go_wp2_with fail;go_loopw [9,10] (fun nv i wr=>∃(m:Nat) (M:List Spl) (na:Option Addr) (nc:Nat),m<=L.length/\i= .int .i64 m/\nv= .slice na M.length nc/\M.length<=165/\fh (jP l t ((L.map Spl.key).take m)) (M.map Spl.key)/\gr R (k+1) (.slice na M.length nc) M wr) (fun _ i _=>L.length-(intOf i).toNat);case atStart=>exact⟨0,[],none,0,zero_le _,rfl,rfl,by simp,Aq,⟨bX,ownsRow_nil _ _ _ _,by intro x hx;cases hx⟩⟩
   case round=>
    obtain⟨m,M,na,nc,hm,rfl,rfl,hM,aK,hN⟩:=hrel;have HM:=bQ aK hN;clear aK hN;obtain⟨d,rfl⟩:∃d:World,d=wr:=⟨_,rfl⟩;by_cases bM:m<L.length/\M.length<=64;case neg=>
     have br:W.take (k+1)=W.take k++[t]:=by rw[take_add_one,a6.out];rfl
     by_cases dO:64<M.length
     .have HB:=bP (show dq l W [] 2 from .inr (.inl ⟨⟨HP.out,ct.out⟩,by
       have h1:=Df I.out.2.1 HM.out.1;rw[<-br,length_map]at h1;have h2:=xw HP.out W (k+1);omega,rfl,rfl⟩))
      have cG:=I.out.2.2.2.2.trans (HM.out.2.below.mono I.out.2.2.2.2.size);have cx:=bP cG;clear br bM cG;have db:decide ((M.length:Int)<=64)=false:=bY;have dP:decide ((64:Int)<(M.length:Int))=true:=bZ;by_cases b3:m<L.length
      .go_wp2_with fail;go_ret2;exact jK HB.out cx.out
      .go_wp2_with fail;go_ret2;exact jK HB.out cx.out
     .obtain rfl:m=L.length:=by omega
      have b6:fh (jP l t (L.map Spl.key)) (M.map Spl.key):=by
       have:=HM.out.1;rwa [take_of_length_le (by rw[length_map];exact bW)]at this
      have N:=bQ b6.nodup (show(M.map Spl.key).Perm (ep (dN l (W.take (k+1))) [] 0)from by rw[br];exact De I.out.1 I.out.2.1 b6);have HO:=bS (cP HM.out.2.own I.out.2.2.2.2.size) (HM.out.2.each.base I.out.2.2.2.2.size) (I.out.2.2.2.2.trans (HM.out.2.below.mono I.out.2.2.2.2.size));clear br bM b6;go_wp2_with fail;exact⟨⟨k+1,M,na,nc,by omega,by go_num,rfl,by omega,N.out.1,N.out.2,HO.out.1,HO.out.2.1,HO.out.2.2⟩,by simp[intOf];omega⟩
    obtain⟨b3,dM⟩:=bM;have db:decide ((M.length:Int)<=64)=true:=bZ;obtain⟨x,hx⟩:∃x,L[m]=x:=⟨_,rfl⟩;have b2:L[m]?=some x:=by rw[getElem?_eq_getElem b3,hx]
    obtain⟨cU,aC,aL,cV⟩:=I.out.2.2.2.1 x (mem_of_getElem? b2);obtain⟨ek,en,e9,cb⟩:=I.out.2.2.2.1.bN (by omega) I.out.2.2.1;cases e9
    obtain⟨ga,oa,rfl,cL,cH⟩:=cb.get (by omega);obtain⟨gw,ow,rfl,cM,cK⟩:=(HR.out R I.out.2.2.2.2).2.strs (by omega);have ca:=cH m b3;rw[hx]at ca;have cw:=cK k aP;have ht:W[k]=t:=by have:=a6.out;rw[getElem?_eq_getElem aP]at this;exact Option.some.inj this
    rw[ht]at cw;have cW:b8 R R.heap.size x.at_ (strs x.ws):=by
     obtain⟨a9,c9,e9, -,e8⟩:=b8.ah cV;cases e9
     exact e8
    have HK:=bP (show(L.map Spl.key)[m]?=some (x.ws,x.cost)from by rw[getElem?_map,b2];rfl);have aa:=bP (fun(w':World) (H:Below R.heap.size R w')=>(show w'.cell? ⟨ga,oa+m*2,none⟩=some (.slice x.at_ x.ws.length x.cap)/\w'.cell? ⟨ga,oa+m*2+1,none⟩=some (.int .i64 x.cost)/\w'.cell? ⟨gw,ow+k,none⟩=some (.string t)from
     ⟨(H.cell (p:=⟨ga,_,none⟩) cL).trans ca.1,(H.cell (p:=⟨ga,_,none⟩) cL).trans ca.2,(H.cell (p:=⟨gw,_,none⟩) cM).trans cw⟩))
    have cv:=bP (fun(w':World) (H:Below R.heap.size R w')=>cW.below H bW);have ej:x.ws.length<=12:=by omega
    have cz:=bP cU;clear hx b2 cV cb cH cK ca cw ht cW cU;go_upto_region 16 with (fail);go_cut [9] (fun v wx=>∃(Q:List Spl) (aM:Option Addr) (aN:Nat),v= .slice aM Q.length aN/\Q.length<=65/\fh (iG l t (L.map Spl.key) m 0) (Q.map Spl.key)/\gr R (k+1) (.slice aM Q.length aN) Q wx);case first=>
     have G:=bP (fun(w':World) (H:Below d.heap.size d w')=>(show Below R.heap.size R w' from HM.out.2.below.trans (H.mono HM.out.2.below.size)));have HX:=bP (fun(w':World) (H:Below d.heap.size d w')=>cv.out w' (G.out w' H));have ar:=bP (fun(J:World) (a2:Option Addr) (c2:Nat) (ho:J.ownsRow d.heap.size 9 1 (.slice a2 (x.ws++[t]).length c2) (x.ws++[t]).length (strs (x.ws++[t]))) (H:Below d.heap.size d J)=>
      HM.out.2.bF (by omega) (by omega) H a2 c2 x.ws t x.cost (by rw[cz.out]) aC (by omega) (cP ho HM.out.2.below.size))
     have aq:=bP (fun(v3:Value) (Q:List Spl) (Z:World) (A:gr R (k+1) v3 Q Z) (O:oY (M.map Spl.key) (x.ws++[t]) x.cost (Q.map Spl.key)) (T:Q.length<=M.length+1)=>(show∃(Q:List Spl) (aM:Option Addr) (aN:Nat),v3= .slice aM Q.length aN/\Q.length<=65/\fh (iG l t (L.map Spl.key) m 0) (Q.map Spl.key)/\gr R (k+1) (.slice aM Q.length aN) Q Z from by
      obtain⟨a3,c3,rfl, -, -⟩:=b8.ah A.own;exact⟨Q,a3,c3,rfl,by omega,B7 HM.out.1 HK.out O,A⟩))
     repeat (rename (∀(a:Act) (w:World),Code.wp _ _ _ a w->_)=>bk;clear bk)
     refine wp_region_held_drew (S:=fun w'=>Below R.heap.size R w') (by kernel_rfl) (G.out _ (Go.below_drewN (Below.refl _ d) 1)) (fun aT=>?_);refine tk [0,2,3,4,5,6,8,9,10,11,14,15,16,17,18] ?_;repeat ((refine tkt (v:=?_) ?_ ?_;rotate_left;·intro w' u;obtain⟨s1,s2,s3⟩:=aa.out w' u;go_simp<;>with_reducible rfl);try simp only[pS])
     refine tkn ?_;refine rd2 1 12 (fun K hK=>?_) (fun K hK=>?_)
     .have U:Below d.heap.size d (d.alloc (.cells #[] 9)).drew:=((Below.refl _ d).alloc bW _).trans (Go.below_drewN bX 1);go_simp;refine hK.out _ _ (G.out _ U) (fun _=>?_);clear hK K;try simp only[pS]
      refine rd2 7 12 (fun K hK=>?_) (fun K hK=>?_)
      .have z:Below d.heap.size d (d.alloc (.cells #[] 9)).drew:=U;refine cq (by rfl) _ _ _ (by rfl) d.heap.size 9 i0 _ 1 16 underlying29 hi ad ae af rfl (by decide) _ 0 [] (by rfl) (fk (eE d 9 1)) x.at_ x.ws.length x.cap (strs x.ws) (by rfl) (by simp[strs]) (HX.out _ z) dw (by unfold maxLen;omega) (by omega) z.size ?_;intro v1 V E C;rw[Nat.zero_add,nil_append]at E;have au:Below d.heap.size d V:=z.grown C z.size (fun k hk=>by cases hk;exact bW);refine hK.out _ _ (G.out _ au) (fun _=>?_);clear hK K;try simp only[pS]
       refine rd1 12 (fun K hK=>?_);have D:Below d.heap.size d (V.alloc (.cells #[.string t] 9)):=au.alloc au.size _;have F:=ownsRow.alloc E (.cells #[.string t] 9);have ak:Blk (V.alloc (.cells #[.string t] 9)) V.heap.size #[.string t] 9:=Blk.new _ _ _;go_simp;refine hK.out _ _ (G.out _ D) (fun _=>?_);clear hK K;try simp only[pS]
       refine rd1 13 (fun K hK=>?_);refine cq (by rfl) _ _ _ (by rfl) d.heap.size 9 i0 _ 1 16 underlying29 hi ad ae af rfl (by decide) _ x.ws.length _ (by rfl) F (some ⟨V.heap.size,0,none⟩) 1 1 [.string t] (by rfl) rfl (dE (xs:=[.string t]) ak) (ef _) (by unfold maxLen;omega) (by omega) D.size ?_;intro v2 J r y;have B:Below d.heap.size d J:=D.grown y D.size (fun k hk=>(F.lt k hk).1);rw[show strs x.ws++[Value.string t]=strs (x.ws++[t]) by simp[strs],show x.ws.length+1=(x.ws++[t]).length by simp]at r;refine hK.out _ _ (G.out _ B) (fun _=>?_);clear hK K;try simp only[pS]
       obtain⟨a2,c2,rfl, -, -⟩:=b8.ah r;have ai:=bP (ar.out J a2 c2 r B);clear r y B;refine tk [19] ?_;refine tkt (v:=?_) ?_ ?_;rotate_left
       .intro w' u;obtain⟨s1,s2,s3⟩:=aa.out w' u;go_simp<;>with_reducible rfl
       try simp only[pS]
       refine tkn ?_;refine rd1 20 (fun K hK=>?_);go_simp;go_at_call 39;refine ai.out.mono ?_;rintro e Z ⟨v3,Q,rfl,A,O,T⟩;refine hK.out _ _ A.below (fun _=>?_);clear hK K;try simp only[pS]
       refine tk [21] ?_;refine tkt (v:=?_) ?_ ?_;rotate_left
       .intro w' u;obtain⟨s1,s2,s3⟩:=aa.out w' u;go_simp<;>with_reducible rfl
       try simp only[pS]
       refine tkn ?_;refine wpAnyH_done (by kernel_rfl) ?_ _;have N:=bP (aq.out v3 Q Z A O T);clear A O T;go_wp2_with fail;go_meet;exact N.out
      .have z:Below d.heap.size d ((d.alloc (.cells #[] 9)).drew.alloc (.cells #[.string t] 9)):=U.alloc U.size _;have aJ:Blk ((d.alloc (.cells #[] 9)).drew.alloc (.cells #[.string t] 9)) (d.heap.size+1) #[.string t] 9:=by have:=Blk.new (d.alloc (.cells #[] 9)).drew #[.string t] 9;simpa using this
       go_simp;refine hK.out _ _ (G.out _ z) (fun _=>?_);clear hK K;try simp only[pS]
       refine rd1 7 (fun K hK=>?_);refine cq (by rfl) _ _ _ (by rfl) d.heap.size 9 i0 _ 1 16 underlying29 hi ad ae af rfl (by decide) _ 0 [] (by rfl) (ownsRow.alloc (fk (eE d 9 1)) _) x.at_ x.ws.length x.cap (strs x.ws) (by rfl) (by simp[strs]) (HX.out _ z) dw (by unfold maxLen;omega) (by omega) z.size ?_;intro v1 V E C;rw[Nat.zero_add,nil_append]at E;have D:Below d.heap.size d V:=z.grown C z.size (fun k hk=>by cases hk;simp);have ak:=aJ.grown C (fun e=>by have:=Option.some.inj e;simp at this);have F:=E;refine hK.out _ _ (G.out _ D) (fun _=>?_);clear hK K;try simp only[pS]
       refine rd1 13 (fun K hK=>?_);refine cq (by rfl) _ _ _ (by rfl) d.heap.size 9 i0 _ 1 16 underlying29 hi ad ae af rfl (by decide) _ x.ws.length _ (by rfl) F (some ⟨d.heap.size+1,0,none⟩) 1 1 [.string t] (by rfl) rfl (dE (xs:=[.string t]) ak) (ef _) (by unfold maxLen;omega) (by omega) D.size ?_;intro v2 J r y;have B:Below d.heap.size d J:=D.grown y D.size (fun k hk=>(F.lt k hk).1);rw[show strs x.ws++[Value.string t]=strs (x.ws++[t]) by simp[strs],show x.ws.length+1=(x.ws++[t]).length by simp]at r;refine hK.out _ _ (G.out _ B) (fun _=>?_);clear hK K;try simp only[pS]
       obtain⟨a2,c2,rfl, -, -⟩:=b8.ah r;have ai:=bP (ar.out J a2 c2 r B);clear r y B;refine tk [19] ?_;refine tkt (v:=?_) ?_ ?_;rotate_left
       .intro w' u;obtain⟨s1,s2,s3⟩:=aa.out w' u;go_simp<;>with_reducible rfl
       try simp only[pS]
       refine tkn ?_;refine rd1 20 (fun K hK=>?_);go_simp;go_at_call 39;refine ai.out.mono ?_;rintro e Z ⟨v3,Q,rfl,A,O,T⟩;refine hK.out _ _ A.below (fun _=>?_);clear hK K;try simp only[pS]
       refine tk [21] ?_;refine tkt (v:=?_) ?_ ?_;rotate_left
       .intro w' u;obtain⟨s1,s2,s3⟩:=aa.out w' u;go_simp<;>with_reducible rfl
       try simp only[pS]
       refine tkn ?_;refine wpAnyH_done (by kernel_rfl) ?_ _;have N:=bP (aq.out v3 Q Z A O T);clear A O T;go_wp2_with fail;go_meet;exact N.out
     .have U:Below d.heap.size d (d.alloc (.cells #[.string t] 9)).drew:=((Below.refl _ d).alloc bW _).trans (Go.below_drewN bX 1);go_simp;refine hK.out _ _ (G.out _ U) (fun _=>?_);clear hK K;try simp only[pS]
      refine rd1 1 (fun K hK=>?_);have z:Below d.heap.size d ((d.alloc (.cells #[.string t] 9)).drew.alloc (.cells #[] 9)):=U.alloc U.size _;have aV:((d.alloc (.cells #[.string t] 9)).drew.alloc (.cells #[] 9)).ownsRow d.heap.size 9 1 (.slice (some ⟨d.heap.size+1,0,none⟩) 0 0) 0 []:=by
       have:=cP (eE (d.alloc (.cells #[.string t] 9)).drew 9 1) U.size;simpa using this
      have aJ:Blk ((d.alloc (.cells #[.string t] 9)).drew.alloc (.cells #[] 9)) d.heap.size #[.string t] 9:=(Blk.new d #[.string t] 9).alloc _;go_simp;refine hK.out _ _ (G.out _ z) (fun _=>?_);clear hK K;try simp only[pS]
      refine rd1 7 (fun K hK=>?_);refine cq (by rfl) _ _ _ (by rfl) d.heap.size 9 i0 _ 1 16 underlying29 hi ad ae af rfl (by decide) _ 0 [] (by rfl) aV x.at_ x.ws.length x.cap (strs x.ws) (by rfl) (by simp[strs]) (HX.out _ z) dw (by unfold maxLen;omega) (by omega) z.size ?_;intro v1 V E C;rw[Nat.zero_add,nil_append]at E;have D:Below d.heap.size d V:=z.grown C z.size (fun k hk=>by cases hk;simp);have ak:=aJ.grown C (fun e=>by have:=Option.some.inj e;simp at this);have F:=E;refine hK.out _ _ (G.out _ D) (fun _=>?_);clear hK K;try simp only[pS]
      refine rd1 13 (fun K hK=>?_);refine cq (by rfl) _ _ _ (by rfl) d.heap.size 9 i0 _ 1 16 underlying29 hi ad ae af rfl (by decide) _ x.ws.length _ (by rfl) F (some ⟨d.heap.size,0,none⟩) 1 1 [.string t] (by rfl) rfl (dE (xs:=[.string t]) ak) (ef _) (by unfold maxLen;omega) (by omega) D.size ?_;intro v2 J r y;have B:Below d.heap.size d J:=D.grown y D.size (fun k hk=>(F.lt k hk).1);rw[show strs x.ws++[Value.string t]=strs (x.ws++[t]) by simp[strs],show x.ws.length+1=(x.ws++[t]).length by simp]at r;refine hK.out _ _ (G.out _ B) (fun _=>?_);clear hK K;try simp only[pS]
      obtain⟨a2,c2,rfl, -, -⟩:=b8.ah r;have ai:=bP (ar.out J a2 c2 r B);clear r y B;refine tk [19] ?_;refine tkt (v:=?_) ?_ ?_;rotate_left
      .intro w' u;obtain⟨s1,s2,s3⟩:=aa.out w' u;go_simp<;>with_reducible rfl
      try simp only[pS]
      refine tkn ?_;refine rd1 20 (fun K hK=>?_);go_simp;go_at_call 39;refine ai.out.mono ?_;rintro e Z ⟨v3,Q,rfl,A,O,T⟩;refine hK.out _ _ A.below (fun _=>?_);clear hK K;try simp only[pS]
      refine tk [21] ?_;refine tkt (v:=?_) ?_ ?_;rotate_left
      .intro w' u;obtain⟨s1,s2,s3⟩:=aa.out w' u;go_simp<;>with_reducible rfl
      try simp only[pS]
      refine tkn ?_;refine wpAnyH_done (by kernel_rfl) ?_ _;have N:=bP (aq.out v3 Q Z A O T);clear A O T;go_wp2_with fail;go_meet;exact N.out
    case rest=>
     obtain⟨Q,aM,aN,rfl,dZ,bp,A⟩:=hcut;have bA:=bQ bp A;clear bp A;go_wp2_with fail;go_loopw [9,11] (fun nv i wr=>∃(j:Nat) (M:List Spl) (na:Option Addr) (nc:Nat),j<=l.length/\i= .int .i64 j/\nv= .slice na M.length nc/\M.length<=65+j/\fh (iG l t (L.map Spl.key) m j) (M.map Spl.key)/\gr R (k+1) (.slice na M.length nc) M wr) (fun _ i _=>l.length-(intOf i).toNat);case atStart=>exact⟨0,Q,aM,aN,zero_le _,rfl,rfl,by omega,bA.out.1,bA.out.2⟩
     case round=>
      obtain⟨j,M4,cd,cf,hj,rfl,rfl,ea,aK,hN⟩:=hrel;have P:=bQ aK hN;clear aK hN bA;by_cases cN:j<l.length;case neg=>
       obtain rfl:j=l.length:=by omega
       have N:=bP (B5 P.out.1 bW HK.out);go_wp2_with fail;exact⟨⟨m+1,M4,cd,cf,by omega,by go_num,rfl,by omega,N.out,P.out.2⟩,by simp[intOf];omega⟩
      obtain⟨s,hs⟩:∃s,l[j]=s:=⟨_,rfl⟩;have bR:l[j]?=some s:=by rw[getElem?_eq_getElem cN,hs]
      obtain⟨_,_,_,dB,dC⟩:=HP.out.each s (mem_of_getElem? bR);obtain⟨gl,ol,rfl,aB,cI⟩:=(HR.out R I.out.2.2.2.2).1.a7 (by omega);obtain⟨_,bE,bG,bH⟩:=cI j cN;rw[hs]at bE bG bH;have cy:=bP bR;have bB:=bP (fun(w':World) (H:Below R.heap.size R w')=>(show w'.cell? ⟨gl,ol+j*4+1,none⟩=some (.string s.short)/\w'.cell? ⟨gl,ol+j*4+2,none⟩=some (.string s.full)/\w'.cell? ⟨gl,ol+j*4+3,none⟩=some (.int .i64 s.cost)from
       ⟨(H.cell (p:=⟨gl,_,none⟩) aB).trans bE,(H.cell (p:=⟨gl,_,none⟩) aB).trans bG,(H.cell (p:=⟨gl,_,none⟩) aB).trans bH⟩))
      clear hs bR cI bE bG bH;obtain⟨c1, -, -⟩:=bB.out wr P.out.2.below;obtain⟨-, -,c2⟩:=aa.out wr P.out.2.below;have d2:=iJ (a:=s.short) (b:=t);by_cases he:s.short=t;case neg=>
       rw[decide_eq_false he]at d2;have N:=bP (Ap P.out.1 cy.out he);clear he;go_wp2_with fail;go_quiet (fail);go_wp2_with fail;exact⟨⟨j+1,M4,cd,cf,by omega,by go_num,rfl,by omega,N.out,P.out.2.drewN _⟩,by simp[intOf];omega⟩
      rw[decide_eq_true he]at d2;have He:=bP he;clear he;go_wp2_with fail;go_quiet (fail);go_upto_region 21 with (fail);generalize cT:(wr.drewN _)=d;have HQ:=bP (show gr R (k+1) (.slice cd M4.length cf) M4 d from by rw[<-cT];exact P.out.2.drewN _);clear cT c1 c2 d2;obtain⟨f,hf⟩:∃f,s.full=f:=⟨_,rfl⟩;obtain⟨sc,b9⟩:∃c,s.cost=c:=⟨_,rfl⟩;have dU:IntKind.i64.wrap (x.cost+sc)=x.cost+sc:=IntWalk.i64_in _ (by omega);have aI:=bP (fun(w':World) (H:Below R.heap.size R w')=>(show w'.cell? ⟨ga,oa+m*2,none⟩=some (.slice x.at_ x.ws.length x.cap)/\w'.cell? ⟨ga,oa+m*2+1,none⟩=some (.int .i64 x.cost)/\w'.cell? ⟨gl,ol+j*4+2,none⟩=some (.string f)/\w'.cell? ⟨gl,ol+j*4+3,none⟩=some (.int .i64 sc)from
       ⟨(aa.out w' H).1,(aa.out w' H).2.1,by rw[<-hf];exact(bB.out w' H).2.1,by rw[<-b9];exact(bB.out w' H).2.2⟩))
      have G:=bP (fun(w':World) (H:Below d.heap.size d w')=>(show Below R.heap.size R w' from HQ.out.below.trans (H.mono HQ.out.below.size)));have HX:=bP (fun(w':World) (H:Below d.heap.size d w')=>cv.out w' (G.out w' H));have ar:=bP (fun(J:World) (a2:Option Addr) (c2:Nat) (ho:J.ownsRow d.heap.size 9 1 (.slice a2 (x.ws++[f]).length c2) (x.ws++[f]).length (strs (x.ws++[f]))) (H:Below d.heap.size d J)=>
       HQ.out.bF (by omega) (by omega) H a2 c2 x.ws f (x.cost+sc) (by rw[cz.out]) (by omega) (by omega) (cP ho HQ.out.below.size))
      have aq:=bP (fun(v3:Value) (M5:List Spl) (Z:World) (A:gr R (k+1) v3 M5 Z) (O:oY (M4.map Spl.key) (x.ws++[f]) (x.cost+sc) (M5.map Spl.key)) (T:M5.length<=M4.length+1)=>(show∃(M5:List Spl) (aD:Option Addr) (aE:Nat),v3= .slice aD M5.length aE/\M5.length<=65+(j+1)/\fh (iG l t (L.map Spl.key) m (j+1)) (M5.map Spl.key)/\gr R (k+1) (.slice aD M5.length aE) M5 Z from by
       obtain⟨a3,c3,rfl, -, -⟩:=b8.ah A.own;exact⟨M5,a3,c3,rfl,by omega,B6 P.out.1 HK.out cy.out He.out (by rw[hf,b9];exact O),A⟩))
      clear hf b9 dB dC;refine wp_region_held_drew (S:=fun w'=>Below R.heap.size R w') (by kernel_rfl) (G.out _ (Go.below_drewN (Below.refl _ d) 1)) (fun aT=>?_);refine tk [0,2,3,4,5,6,8,9,10,11,12,15,16,17,18,19,20,21,22,23,24,25] ?_;repeat ((refine tkt (v:=?_) ?_ ?_;rotate_left;·intro w' u;obtain⟨s1,s2,s3,s4⟩:=aI.out w' u;go_simp<;>with_reducible rfl);try simp only[pS])
      refine tkn ?_;refine rd2 1 13 (fun K hK=>?_) (fun K hK=>?_)
      .have U:Below d.heap.size d (d.alloc (.cells #[] 9)).drew:=((Below.refl _ d).alloc bW _).trans (Go.below_drewN bX 1);go_simp;refine hK.out _ _ (G.out _ U) (fun _=>?_);clear hK K;try simp only[pS]
       refine rd2 7 13 (fun K hK=>?_) (fun K hK=>?_)
       .have z:Below d.heap.size d (d.alloc (.cells #[] 9)).drew:=U;refine cq (by rfl) _ _ _ (by rfl) d.heap.size 9 i0 _ 1 16 underlying29 hi ad ae af rfl (by decide) _ 0 [] (by rfl) (fk (eE d 9 1)) x.at_ x.ws.length x.cap (strs x.ws) (by rfl) (by simp[strs]) (HX.out _ z) dw (by unfold maxLen;omega) (by omega) z.size ?_;intro v1 V E C;rw[Nat.zero_add,nil_append]at E;have au:Below d.heap.size d V:=z.grown C z.size (fun k hk=>by cases hk;exact bW);refine hK.out _ _ (G.out _ au) (fun _=>?_);clear hK K;try simp only[pS]
        refine rd1 13 (fun K hK=>?_);have D:Below d.heap.size d (V.alloc (.cells #[.string f] 9)):=au.alloc au.size _;have F:=ownsRow.alloc E (.cells #[.string f] 9);have ak:Blk (V.alloc (.cells #[.string f] 9)) V.heap.size #[.string f] 9:=Blk.new _ _ _;go_simp;refine hK.out _ _ (G.out _ D) (fun _=>?_);clear hK K;try simp only[pS]
        refine rd1 14 (fun K hK=>?_);refine cq (by rfl) _ _ _ (by rfl) d.heap.size 9 i0 _ 1 16 underlying29 hi ad ae af rfl (by decide) _ x.ws.length _ (by rfl) F (some ⟨V.heap.size,0,none⟩) 1 1 [.string f] (by rfl) rfl (dE (xs:=[.string f]) ak) (ef _) (by unfold maxLen;omega) (by omega) D.size ?_;intro v2 J r y;have B:Below d.heap.size d J:=D.grown y D.size (fun k hk=>(F.lt k hk).1);rw[show strs x.ws++[Value.string f]=strs (x.ws++[f]) by simp[strs],show x.ws.length+1=(x.ws++[f]).length by simp]at r;refine hK.out _ _ (G.out _ B) (fun _=>?_);clear hK K;try simp only[pS]
        obtain⟨a2,c2,rfl, -, -⟩:=b8.ah r;have ai:=bP (ar.out J a2 c2 r B);clear r y B;refine tk [26] ?_;refine tkt (v:=?_) ?_ ?_;rotate_left
        .intro w' u;obtain⟨s1,s2,s3,s4⟩:=aI.out w' u;go_simp<;>with_reducible rfl
        try simp only[pS]
        refine tkn ?_;refine rd1 27 (fun K hK=>?_);go_simp;go_at_call 39;refine ai.out.mono ?_;rintro e Z ⟨v3,Q,rfl,A,O,T⟩;refine hK.out _ _ A.below (fun _=>?_);clear hK K;try simp only[pS]
        obtain⟨M5,aD,aE,rfl,cA,ab,az⟩:=aq.out v3 Q Z A O T;have N:=bQ ab az;clear ab az A O T;refine tk [28] ?_;refine tkt (v:=?_) ?_ ?_;rotate_left
        .intro w' u;obtain⟨s1,s2,s3,s4⟩:=aI.out w' u;go_simp<;>with_reducible rfl
        try simp only[pS]
        refine tkn ?_;refine wpAnyH_done (by kernel_rfl) ?_ _;go_wp2_with fail;exact⟨⟨j+1,M5,aD,aE,by omega,by go_num,rfl,by omega,N.out.1,N.out.2⟩,by simp[intOf];omega⟩
       .have z:Below d.heap.size d ((d.alloc (.cells #[] 9)).drew.alloc (.cells #[.string f] 9)):=U.alloc U.size _;have aJ:Blk ((d.alloc (.cells #[] 9)).drew.alloc (.cells #[.string f] 9)) (d.heap.size+1) #[.string f] 9:=by have:=Blk.new (d.alloc (.cells #[] 9)).drew #[.string f] 9;simpa using this
        go_simp;refine hK.out _ _ (G.out _ z) (fun _=>?_);clear hK K;try simp only[pS]
        refine rd1 7 (fun K hK=>?_);refine cq (by rfl) _ _ _ (by rfl) d.heap.size 9 i0 _ 1 16 underlying29 hi ad ae af rfl (by decide) _ 0 [] (by rfl) (ownsRow.alloc (fk (eE d 9 1)) _) x.at_ x.ws.length x.cap (strs x.ws) (by rfl) (by simp[strs]) (HX.out _ z) dw (by unfold maxLen;omega) (by omega) z.size ?_;intro v1 V E C;rw[Nat.zero_add,nil_append]at E;have D:Below d.heap.size d V:=z.grown C z.size (fun k hk=>by cases hk;simp);have ak:=aJ.grown C (fun e=>by have:=Option.some.inj e;simp at this);have F:=E;refine hK.out _ _ (G.out _ D) (fun _=>?_);clear hK K;try simp only[pS]
        refine rd1 14 (fun K hK=>?_);refine cq (by rfl) _ _ _ (by rfl) d.heap.size 9 i0 _ 1 16 underlying29 hi ad ae af rfl (by decide) _ x.ws.length _ (by rfl) F (some ⟨d.heap.size+1,0,none⟩) 1 1 [.string f] (by rfl) rfl (dE (xs:=[.string f]) ak) (ef _) (by unfold maxLen;omega) (by omega) D.size ?_;intro v2 J r y;have B:Below d.heap.size d J:=D.grown y D.size (fun k hk=>(F.lt k hk).1);rw[show strs x.ws++[Value.string f]=strs (x.ws++[f]) by simp[strs],show x.ws.length+1=(x.ws++[f]).length by simp]at r;refine hK.out _ _ (G.out _ B) (fun _=>?_);clear hK K;try simp only[pS]
        obtain⟨a2,c2,rfl, -, -⟩:=b8.ah r;have ai:=bP (ar.out J a2 c2 r B);clear r y B;refine tk [26] ?_;refine tkt (v:=?_) ?_ ?_;rotate_left
        .intro w' u;obtain⟨s1,s2,s3,s4⟩:=aI.out w' u;go_simp<;>with_reducible rfl
        try simp only[pS]
        refine tkn ?_;refine rd1 27 (fun K hK=>?_);go_simp;go_at_call 39;refine ai.out.mono ?_;rintro e Z ⟨v3,Q,rfl,A,O,T⟩;refine hK.out _ _ A.below (fun _=>?_);clear hK K;try simp only[pS]
        obtain⟨M5,aD,aE,rfl,cA,ab,az⟩:=aq.out v3 Q Z A O T;have N:=bQ ab az;clear ab az A O T;refine tk [28] ?_;refine tkt (v:=?_) ?_ ?_;rotate_left
        .intro w' u;obtain⟨s1,s2,s3,s4⟩:=aI.out w' u;go_simp<;>with_reducible rfl
        try simp only[pS]
        refine tkn ?_;refine wpAnyH_done (by kernel_rfl) ?_ _;go_wp2_with fail;exact⟨⟨j+1,M5,aD,aE,by omega,by go_num,rfl,by omega,N.out.1,N.out.2⟩,by simp[intOf];omega⟩
      .have U:Below d.heap.size d (d.alloc (.cells #[.string f] 9)).drew:=((Below.refl _ d).alloc bW _).trans (Go.below_drewN bX 1);go_simp;refine hK.out _ _ (G.out _ U) (fun _=>?_);clear hK K;try simp only[pS]
       refine rd1 1 (fun K hK=>?_);have z:Below d.heap.size d ((d.alloc (.cells #[.string f] 9)).drew.alloc (.cells #[] 9)):=U.alloc U.size _;have aV:((d.alloc (.cells #[.string f] 9)).drew.alloc (.cells #[] 9)).ownsRow d.heap.size 9 1 (.slice (some ⟨d.heap.size+1,0,none⟩) 0 0) 0 []:=by
        have:=cP (eE (d.alloc (.cells #[.string f] 9)).drew 9 1) U.size;simpa using this
       have aJ:Blk ((d.alloc (.cells #[.string f] 9)).drew.alloc (.cells #[] 9)) d.heap.size #[.string f] 9:=(Blk.new d #[.string f] 9).alloc _;go_simp;refine hK.out _ _ (G.out _ z) (fun _=>?_);clear hK K;try simp only[pS]
       refine rd1 7 (fun K hK=>?_);refine cq (by rfl) _ _ _ (by rfl) d.heap.size 9 i0 _ 1 16 underlying29 hi ad ae af rfl (by decide) _ 0 [] (by rfl) aV x.at_ x.ws.length x.cap (strs x.ws) (by rfl) (by simp[strs]) (HX.out _ z) dw (by unfold maxLen;omega) (by omega) z.size ?_;intro v1 V E C;rw[Nat.zero_add,nil_append]at E;have D:Below d.heap.size d V:=z.grown C z.size (fun k hk=>by cases hk;simp);have ak:=aJ.grown C (fun e=>by have:=Option.some.inj e;simp at this);have F:=E;refine hK.out _ _ (G.out _ D) (fun _=>?_);clear hK K;try simp only[pS]
       refine rd1 14 (fun K hK=>?_);refine cq (by rfl) _ _ _ (by rfl) d.heap.size 9 i0 _ 1 16 underlying29 hi ad ae af rfl (by decide) _ x.ws.length _ (by rfl) F (some ⟨d.heap.size,0,none⟩) 1 1 [.string f] (by rfl) rfl (dE (xs:=[.string f]) ak) (ef _) (by unfold maxLen;omega) (by omega) D.size ?_;intro v2 J r y;have B:Below d.heap.size d J:=D.grown y D.size (fun k hk=>(F.lt k hk).1);rw[show strs x.ws++[Value.string f]=strs (x.ws++[f]) by simp[strs],show x.ws.length+1=(x.ws++[f]).length by simp]at r;refine hK.out _ _ (G.out _ B) (fun _=>?_);clear hK K;try simp only[pS]
       obtain⟨a2,c2,rfl, -, -⟩:=b8.ah r;have ai:=bP (ar.out J a2 c2 r B);clear r y B;refine tk [26] ?_;refine tkt (v:=?_) ?_ ?_;rotate_left
       .intro w' u;obtain⟨s1,s2,s3,s4⟩:=aI.out w' u;go_simp<;>with_reducible rfl
       try simp only[pS]
       refine tkn ?_;refine rd1 27 (fun K hK=>?_);go_simp;go_at_call 39;refine ai.out.mono ?_;rintro e Z ⟨v3,Q,rfl,A,O,T⟩;refine hK.out _ _ A.below (fun _=>?_);clear hK K;try simp only[pS]
       obtain⟨M5,aD,aE,rfl,cA,ab,az⟩:=aq.out v3 Q Z A O T;have N:=bQ ab az;clear ab az A O T;refine tk [28] ?_;refine tkt (v:=?_) ?_ ?_;rotate_left
       .intro w' u;obtain⟨s1,s2,s3,s4⟩:=aI.out w' u;go_simp<;>with_reducible rfl
       try simp only[pS]
       refine tkn ?_;refine wpAnyH_done (by kernel_rfl) ?_ _;go_wp2_with fail;exact⟨⟨j+1,M5,aD,aE,by omega,by go_num,rfl,by omega,N.out.1,N.out.2⟩,by simp[intOf];omega⟩
end
end Go.Proofs.YtmhdgddjeadjjaaGreatDoor
