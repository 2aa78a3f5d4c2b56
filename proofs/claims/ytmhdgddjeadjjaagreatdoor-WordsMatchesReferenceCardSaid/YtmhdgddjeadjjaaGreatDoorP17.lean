/- K8 -/
import Derived.Test.YtmhdgddjeadjjaaGreatDoorP14
import Derived.Test.YtmhdgddjeadjjaaGreatDoorP16
namespace Go.Proofs.YtmhdgddjeadjjaaGreatDoor
open _root_.List Go.Lib _root_.Nat Go.World _root_.Int Go.Proofs.Tryz
variable {ds:List Deferred}{n0:Nat}{S:Nat → Prop}{P:Program}{W' w w':World}
section
open Go.RowKit Classical
open Go.Shelf
attribute [local go_sem] Oper.semAt_some
attribute [local go_sem] gB fU
def xe (D:Nat):Deferred:={ target:= .collected D,args:= #[] }
def eG (ds:List Deferred)(W:World)(n0:Nat):Prop:=∃Ds:List Nat,ds=Ds.map xe/\Ds.Nodup/\∀D∈Ds,n0<=D/\W.heap[D]?=some (.deferred (some []))
theorem eG.nil (W:World)(n0:Nat):eG [] W n0:=⟨[],rfl,nodup_nil,by simp⟩
theorem eG.chg {W:World}(h:eG ds W n0)(g:Chg S W W')(f:∀D,W.heap[D]?=some (.deferred (some []))->n0<=D->¬S D):eG ds W' n0:=by
 obtain⟨Ds,h1,c,d⟩:=h;refine⟨Ds,h1,c,fun D e=>?_⟩;obtain⟨b,a⟩:=d D e;exact⟨b,(g.block D (Array.getElem?_eq_some_iff.1 a).1 (f D a b)).trans a⟩
theorem eG.lt {W:World}(h:eG ds W n0):∃Ds:List Nat,ds=Ds.map xe/\Ds.Nodup/\(∀D∈Ds,n0<=D/\W.heap[D]?=some (.deferred (some [])))/\∀D∈Ds,D<W.heap.size:=by
 obtain⟨Ds,h1,b,a⟩:=h;exact⟨Ds,h1,b,a,fun D c=>(Array.getElem?_eq_some_iff.1 (a D c).2).1⟩
theorem eG.cons {W:World}{D:Nat}(h:eG ds W n0)(f:Chg S W W')(e:∀D,W.heap[D]?=some (.deferred (some []))->n0<=D->¬S D)(n:W.heap.size<=D)(o:n0<=W.heap.size)(hK:W'.heap[D]?=some (.deferred (some []))):
  eG ({ target:= .collected D,args:= #[] }::ds) W' n0:=by
 obtain⟨Ds,h1,g,i,b⟩:=h.lt;obtain⟨j,k,l,m⟩:=h.chg f e;refine⟨D::Ds,by rw[h1];rfl,nodup_cons.2 ⟨fun hm=>by have:=b D hm;omega,g⟩,fun E a=>?_⟩;rcases mem_cons.1 a with rfl |a
 .exact⟨by omega,hK⟩
 .obtain⟨c,d⟩:=i E a;exact⟨c,(f.block E (b E a) (e E d c)).trans d⟩
theorem pN {F:Fence}{n:Nat}{fn:Func}{tmps:Array Value}{R:Ending->World->Prop}:∀(Ds:List Nat) (W:World),Ds.Nodup->(∀D∈Ds,W.heap[D]?=some (.deferred (some [])))->
  (∀W',Chg (fun k=>k∈Ds) W W'->∃v,(results fn tmps).run P W'= .ok v W'/\R (.returned v) W')->LeavesInM F n P fn tmps R (Ds.map xe) .returning W
 |[],W,_,_,h=>by
  obtain⟨v,h1,g⟩:=h W (Chg.refl _ _);exact⟨v,h1,g⟩
 |D::Ds,W,j,a,h=>by
  obtain⟨c,d⟩:=nodup_cons.1 j;have hK:=a D (by simp);refine⟨by simp,.inl ⟨D,W.putObj D (.deferred none),rfl,run_takeDeferred hK,?_⟩⟩;refine pN Ds _ d (fun E b=>?_) (fun W' i=>h W' ?_)
  .have f:E≠D:=fun e=>c (e▸b);exact(putObj_heap_other f).trans (a E (by simp[b]))
  .refine Chg.trans (w':=W.putObj D (.deferred none)) ⟨rfl,rfl,rfl,Nat.le_of_eq putObj_size.symm,fun k _ hk=>putObj_heap_other (fun e=>hk (by rw[e];exact mem_cons_self))⟩ (i.mono (fun k hk=>mem_cons_of_mem _ hk))
theorem Chg.aF {T:Nat->Prop}{w'':World}(h:Chg S w w')(k:Chg T w' w'')(c:∀i,T i->i<w.heap.size->S i):Chg S w w'':=
 ⟨k.os.trans h.os,k.tape.trans h.tape,k.output.trans h.output,Nat.le_trans h.size k.size,fun i a b=>(k.block i (Nat.lt_of_lt_of_le a h.size) (fun d=>b (c i d a))).trans (h.block i a b)⟩
theorem nE {W:World}(B:Nat)(h:Chg S W W')(b:∀k,S k->k<B\/∃(cs:Array Value) (t:TypeId),Blk W k cs t):KeepsFrom B W W':=
 ⟨h.size,fun k o e hk c=>by
  refine(h.block k (Array.getElem?_eq_some_iff.1 hk).1 (fun d=>?_)).trans hk;rcases b k d with h1 |⟨cs,t,a⟩
  .omega
  .unfold Blk at a;rw[a]at hk;cases hk;cases c⟩
theorem gC.grown {e:TypeId}{v:Value}{n:Nat}{cs:List Value}{row:Option Nat}(h:gC w e v n cs)(c:w.grownBy w' row)(f:∀r,row=some r->∃o:Obj,w.heap[r]?=some o/\o.isCells=false):gC w' e v n cs:=by
 obtain⟨b,h1⟩:=h;rcases h1 with h1 |⟨g,off,cap,cur,rfl,a,d,r⟩
 .exact⟨b,.inl h1⟩
 .exact⟨b,.inr ⟨g,off,cap,cur,rfl,a,j1 d c f,r⟩⟩
theorem gZ.grown {b c:Nat}{ks q:List Plc}{v:Value}{row:Option Nat}(h:gZ w b c ks q v)(a:w.grownBy w' row)(d:∀r,row=some r->∃o:Obj,w.heap[r]?=some o/\o.isCells=false)(f:∀r,row=some r->b<r):gZ w' b c ks q v:=
 ⟨ch.grown h.set a (fun e=>by have:=f b e.symm;omega),j1 h.box a d,h.row.grown a d⟩
theorem ch.len {b:Nat}{Ok:Value->Prop}{l:List (Value×Value)}{k e t:TypeId}(h:ch w b Ok l)(c:P.underlying t=some (.map k e))(ty:TypeId):(Builtin.len_ #[t] ty #[.map (some b)]).run P w= .ok (.int .i64 l.length) w:=by
 obtain⟨es,clock,a,d,hk,rfl⟩:=h;simp[Builtin.len_,run_underlying c,MapKept.run_getObj_map a,goInt,Result.andThen]
theorem tU (s:ByteArray)(d:Int)(a:dD d)(c:s.size<=1000000)(w:World):
  Calls prog 165 #[.string s,.int .i64 d] w fun e w'=>e= .returned (.string (dM s d))/\Below w.heap.size w w':=by
 rcases a with rfl |a
 .refine(zp s w).mono ?_;rintro e w' ⟨rfl,rfl⟩;exact⟨by simp[dM],bX⟩
 .obtain⟨n,rfl⟩:∃n:Nat,d=n:=⟨d.toNat,by omega⟩;refine(zq s n (by omega) (by omega) c w).mono ?_;rintro e w' ⟨rfl,b⟩;refine⟨?_,b⟩;rw[dM,if_neg (by omega),toNat_natCast]
theorem j7 {a:Code}{Q:Exit->Act->World->Prop}{T:Array Value}{W:World}(f:(Nat->Value)->Array Value)(h:T=f (fun k=>T[k]?.getD undef))(hw:∀u,a.wp P Q { tmps:=f u,defers:=ds } W):a.wp P Q { tmps:=T,defers:=ds } W:=by
 rw[h];exact hw _
def gR (p:Plc):Value×Value:=(eM p,.bool true)
theorem qe {rest:List Plc}{A B:List (Value×Value)}{a:Value×Value}(h:rest.map gR=A++a::B):∃ra p rb,rest=ra++p::rb/\A=ra.map gR/\a=gR p/\B=rb.map gR:=by
 obtain⟨e,g,rfl,h1,b⟩:=map_eq_append_iff.1 h;obtain⟨p,f,rfl,c,d⟩:=map_eq_cons_iff.1 b;exact⟨e,p,f,rfl,h1.symm,c.symm,d.symm⟩
def vH (M:cu)(fs:List Plc)(c:Int)(L:Nat)(w:World)(e:Ending)(w':World):Prop:=
 ∃(b:Nat) (ks:List Plc),e= .returned (.tuple #[.map (some b),.bool (decide (ks.length<=2000))])/\cy w' b fM (ks.map eM)/\w.heap.size<=b/\Below w.heap.size w w'/\(∀p∈ks,mF M (·∈fs) c p)/\(ks.length<=2000->∀p,mF M (·∈fs) c p->p∈ks)/\
  (∀p∈ks,p.tx.size<=L+2002)/\(∀p∈ks,cD M.ag p.st)
set_option maxRecDepth 100000
set_option maxHeartbeats 8000000
theorem xI (M:cu)(hv:cN M)(v:Value)(fs:List Plc)(bf:Nat)(c:Int)(L:Nat)(w:World)(h:dx w w.heap.size v M)(df:cy w bf fM (fs.map eM))(eS:0<=c)(cq:c<=255)(hL:L<=900000)(ee:∀p∈fs,p.tx.size<=L)(z:∀p∈fs,cD M.ag p.st)(dv:fs.length<=2000):
  Calls prog 97 #[v,.map (some bf),.int .i64 c] w (vH M fs c L w):=by
 obtain⟨fa,fc,aa,ac,rfl,fD,fB,hf,ha⟩:=h;have eX:= @run_makeMap prog;have eE:M.ag<=4000:=hv.most;refine(callsIn_wide (n:=5)).1 ?_;refine callsIn_of_wp_marks func97 rfl trivial ?_ rfl;simp only[ntmps97,size_toArray,length_cons,length_nil,Nat.reduceAdd,Nat.reduceSub,Array.replicate_succ,Array.replicate_zero,push_toArray,append_toArray,nil_append,cons_append];refine wpIn_wide.2 ?_;go_upto_region 4 with (fail);clear eX;rename_i K1 dW K0 dV;have ck:=bP dV;have dn:=bP dW;clear dV dW;generalize bz:(((((w.alloc _).alloc _).alloc _).alloc _).alloc _)=t;obtain⟨f,aY⟩:∃b,w.heap.size=b:=⟨_,rfl⟩;have k0:Blk t f #[.int .i64 M.ag,.int .i64 M.start,.slice fa M.final.length fc,.slice aa M.arcs.length ac] 98:=by
  rw[<-bz,<-aY];exact((((Blk.new _ _ _).alloc _).alloc _).alloc _).alloc _
 have k1:cy t (f+1) fM (([]:List Plc).map eM):=by
  rw[<-bz,<-aY];have:=cy.made (w.alloc (.cells #[.int .i64 M.ag,.int .i64 M.start,.slice fa M.final.length fc,.slice aa M.arcs.length ac] 98)) fM;simp only[size_alloc]at this;exact((ch.alloc this _).alloc _).alloc _
 have k2:Blk t (f+2) #[.map (some (f+1))] 155:=by
  rw[<-bz,<-aY];have:=(Blk.new ((w.alloc (.cells #[.int .i64 M.ag,.int .i64 M.start,.slice fa M.final.length fc,.slice aa M.arcs.length ac] 98)).alloc (.map #[] 0)) #[.map (some (w.heap.size+1))] 155);simp only[size_alloc]at this;exact(this.alloc _).alloc _
 have k3:Blk t (f+3) #[.slice none 0 0] 232:=by
  rw[<-bz,<-aY];have:=(Blk.new (((w.alloc (.cells #[.int .i64 M.ag,.int .i64 M.start,.slice fa M.final.length fc,.slice aa M.arcs.length ac] 98)).alloc (.map #[] 0)).alloc (.cells #[.map (some (w.heap.size+1))] 155)) #[.slice none 0 0] 232);simp only[size_alloc]at this;exact this.alloc _
 have k4:∃T,Blk t (f+4) #[.func (.func 164) #[] #[.pointer (some ⟨f+2,0,none⟩),.pointer (some ⟨f+3,0,none⟩)]] T:=by
  rw[<-bz,<-aY];have:=fun T=>Blk.new ((((w.alloc (.cells #[.int .i64 M.ag,.int .i64 M.start,.slice fa M.final.length fc,.slice aa M.arcs.length ac] 98)).alloc (.map #[] 0)).alloc (.cells #[.map (some (w.heap.size+1))] 155)).alloc (.cells #[.slice none 0 0] 232)) #[.func (.func 164) #[] #[.pointer (some ⟨w.heap.size+2,0,none⟩),.pointer (some ⟨w.heap.size+3,0,none⟩)]] T;simp only[size_alloc]at this;exact⟨_,this _⟩
 have de:Below w.heap.size w t:=by
  rw[<-bz];exact((((bX.alloc bW _).alloc (by simp) _).alloc (by simp;omega) _).alloc (by simp;omega) _).alloc (by simp;omega) _
 have fb:t.heap.size=f+5:=by rw[<-bz];simp[aY]
 have cg:=ha.below de bW;have dw:cy t bf fM (fs.map eM):=ch.below df de (ch.lt df);have fC:bf<f:=by rw[<-aY];exact ch.lt df
 rw[aY]at cg;have dY:0<M.arcs.length->∀p,aa=some p->p.block<f:=fun hp p e=>by
  obtain⟨b,off,e',hb,_⟩:=ha (by rw[cT];omega);rw[e]at e';cases e';show b<f;omega
 have dH:gZ t (f+1) (f+3) [] [] (.slice none 0 0):=⟨k1,k3,⟨rfl,.inl ⟨rfl,_,rfl⟩⟩⟩;clear bz;rw[aY];obtain⟨T4,k4⟩:=k4;have HB:=bV k0 k2 k4 cg dw dH;have Hb:=bQ de aY;have ed:∀a∈M.arcs,Small a:=fun a ha=>oC eE (hv.arcs a ha);have bO:∀a∈M.arcs,0<=a.out:=fun a ha=>by have:=(hv.arcs a ha).2.2.2;unfold dD at this;omega
 have ef:∀a∈M.arcs,cD M.ag a.to:=fun a ha=>(hv.arcs a ha).2.1;have hT:∀s d:Int,cD M.ag s->0<=d->d<=255->Small (tgt s d):=fun s d hs h1 Q=>by
  unfold cD at hs;unfold Small tgt;simp;omega
 have HV:=bU hv ed bO ef hT;have HF:=bS ee z dY;clear k0 k1 k2 k3 k4 de cg dw dH ha aY hf hv ed bO ef hT ee z dY df;have dX:∀(a:Act) (W:World),(∃(u:Nat->Value) (ds:List Deferred) (ks:List Plc) (vq:Value),a={ tmps:=(toArray (α:=Value) (.agg #[.int .i64 M.ag,.int .i64 M.start,.slice fa M.final.length fc,.slice aa M.arcs.length ac]:: .map (some bf):: .int .i64 c:: .pointer (some ⟨f,0,none⟩)::u 4::u 5:: .map none:: .bool false:: .pointer (some ⟨f+2,0,none⟩):: .pointer (some ⟨f+3,0,none⟩):: .pointer (some ⟨f+4,0,none⟩)::u 11::u 12::u 13::u 14::u 15::u 16::u 17::u 18::u 19::u 20::u 21::u 22::u 23::u 24::u 25::u 26::u 27::u 28::u 29::u 30::u 31::u 32::u 33::u 34::u 35::u 36::u 37::u 38::u 39::u 40::u 41::u 42::u 43::u 44::u 45::u 46::u 47::u 48::u 49::u 50::u 51::u 52::u 53::u 54::u 55::u 56::u 57::u 58::u 59::u 60::u 61::u 62::u 63::u 64::u 65::u 66::u 67::u 68::u 69::u 70::u 71::u 72::u 73::u 74::u 75::u 76::u 77::u 78::u 79::u 80::u 81::u 82::[])),defers:=ds }/\Ph1 M (ez M (·∈fs) c) L ks/\gZ W (f+1) (f+3) ks ks vq/\Chg (fun k=>k=f+1\/k=f+3) t W/\(∀k,dC vq k->t.heap.size<=k)/\eG ds W t.heap.size)->K1 a W:=by
  rintro a W ⟨u,ds,ks,vq,rfl,b7,z,B,J,ax⟩;refine dn.out _ _ ?_;have H:=bU b7 z B J ax;clear b7 z B J ax;go_wp2_with fail;clear ck dn;refine wp_loop_ghost (fun m a W=>∃(u:Nat->Value) (ds:List Deferred) (ks:List Plc) (i:Nat) (vq:Value),a={ tmps:=(toArray (α:=Value) (.agg #[.int .i64 M.ag,.int .i64 M.start,.slice fa M.final.length fc,.slice aa M.arcs.length ac]:: .map (some bf):: .int .i64 c:: .pointer (some ⟨f,0,none⟩)::u 4::u 5:: .map none:: .bool false:: .pointer (some ⟨f+2,0,none⟩):: .pointer (some ⟨f+3,0,none⟩):: .pointer (some ⟨f+4,0,none⟩)::u 11::u 12::u 13::u 14::u 15::u 16::u 17::u 18::u 19::u 20::u 21::u 22::u 23::u 24::u 25::u 26::u 27::u 28::u 29::u 30::u 31::u 32::u 33::u 34::u 35::u 36::u 37::u 38::u 39::u 40::u 41::u 42::u 43::u 44::u 45::u 46::u 47::u 48::u 49::u 50::u 51::u 52::u 53::u 54::u 55::u 56::u 57::u 58::u 59::u 60::u 61::u 62::u 63::u 64::u 65::u 66::u 67::u 68::u 69::u 70::u 71::u 72::u 73::u 74::u 75::u 76::u 77::u 78::u 79::u 80::u 81::u 82::[])),defers:=ds }/\m=2001-i/\i<=2000/\oQ M (ez M (·∈fs) c) L i ks/\gZ W (f+1) (f+3) ks (ks.drop i) vq/\Chg (fun k=>k=f+1\/k=f+3) t W/\(∀k,dC vq k->t.heap.size<=k)/\eG ds W t.heap.size) 2001 ⟨u,ds,ks,0,vq,rfl,rfl,zero_le _,H.out.1.start,H.out.2.1,H.out.2.2.1,H.out.2.2.2.1,H.out.2.2.2.2⟩ ?_;clear H;clear u ds ks vq W;rintro m a W ⟨u,ds,ks,i,vq,rfl,rfl,hi,hB,z,B,J,ax⟩;obtain⟨qa,qc,rfl⟩:=z.row.slice;obtain⟨n,hn⟩:∃n,(ks.drop i).length=n:=⟨_,rfl⟩;have eY:n=ks.length-i:=by rw[<-hn,length_drop]
  have fF:=hB.il;have q0:=z.box.cell 0;have qf:=z.box.frozen 0;have t0:=(HB.out.2.1.chg B (by omega)).cell 0;rw[hn]at q0;simp only[getElem?_toArray,getElem?_cons_zero]at q0 t0;have hlen:∀ty,(Builtin.len_ #[155] ty #[.map (some (f+1))]).run prog W= .ok (.int .i64 ks.length) W:=fun ty=>by
   have:=ch.len (P:=prog) z.set underlying155 ty;simpa using this
  have bO:∀tmps:Array Value,∀b:Bool,b=decide (ks.length<=2000)->(ks.length<=2000->i=ks.length)->tmps[6]?.getD undef= .map (some (f+1))->tmps[7]?.getD undef= .bool b->bodyPostM Fence.wide 5 prog f97 (vH M fs c L w) .ret { tmps:=tmps,defers:=ds } W:=fun tmps b hb eo e6 e7=>by
   obtain⟨Ds,rfl,e5,hD⟩:=ax;show LeavesInM _ _ _ _ _ _ _ _ _;refine pN Ds W e5 (fun D h=>(hD D h).2) (fun W' hc=>⟨.tuple #[.map (some (f+1)),.bool b],by simp[results,results97,go_sem,e6,e7],f+1,ks,by rw[hb],?_,?_,?_,hB.snd,fun h p hp=>?_,fun p hp=>by have:=hB.size p hp;omega,hB.st⟩)
   .exact ch.chg z.set hc (fun h=>by have:=(hD _ h).1;omega)
   .have:=Hb.out.2;omega
   .have h1:=Hb.out.1;refine h1.trans ⟨hc.os.trans B.os,hc.tape.trans B.tape,hc.output.trans B.output,Nat.le_trans B.size hc.size,fun k hk=>?_⟩;have e:=Hb.out.2;exact(hc.block k (by have:=B.size;omega) (fun h=>by have:=(hD _ h).1;omega)).trans (B.block k (by omega) (by omega))
   .have e:=eo h;subst e;exact hB.finish hp
  have HO:=bP bO;have HI:=bU hB z B J ax;have eZ:n<=ks.length-i:=by omega
  have e4:ks.length-i<=n:=by omega
  clear bO hB z B J ax hn eY;rcases eq_zero_or_pos n with h0 |h0
  .subst h0;have d1:decide ((0:Int)<((0:Nat):Int))=false:=rfl;go_wp2_with fail;refine HO.out _ ?b1 ?hb1 (fun _=>by omega) ?e61 ?e71;case e61=>exact rfl
   case e71=>exact rfl
   case hb1=>simp;omega
  .have d1:decide ((0:Int)<(n:Int))=true:=bZ;by_cases cQ:ks.length<=2000
   .have d2:decide ((ks.length:Int)<=2000)=true:=bZ;have cV:i<ks.length:=by omega
    obtain⟨p,hp⟩:∃p,ks[i]?=some p:=⟨_,getElem?_eq_getElem cV⟩;have aA:ks.drop i=p::ks.drop (i+1):=by
     rw[drop_eq_getElem_cons cV];congr 1;rw[getElem?_eq_getElem cV]at hp;exact Option.some.inj hp
    obtain⟨n,rfl⟩:∃m,n=m+1:=⟨n-1,by omega⟩;obtain⟨e9,eA⟩:=HI.out.2.1.row;rcases eA with ⟨dU,_⟩ |⟨g,off,cap,cur,e8,ca,ct,dB,cG,du,aq⟩
    .rw[aA]at dU;simp at dU
    .have dA:∀j,W.cell? ⟨g,off+j,none⟩=cur[off+j]?:=fun j=>cell_of_row W g (off+j) cur _ (0,0) ct;injection e8 with e1 e2 e3;subst e1;subst e3;have p0:=dA 0;have p1:=dA 1;rw[aq 0 (by rw[aA];simp),aA,lI]at p0;rw[aq 1 (by rw[aA];simp;omega),aA,lI]at p1;simp only[getElem?_cons_zero,getElem?_cons_succ,Nat.add_zero]at p0 p1;have dR:=bP hp;have HG:=bV hp aA ct dB cG (And.intro du aq);clear hp aA ct dB aq dA e9 e2;go_upto_region 17 with (fail);obtain⟨W1,aC⟩:∃W1:World,W1=W.alloc (.cells #[.int .i64 p.st,.string p.tx] 159):=⟨_,rfl⟩;rw[<-aC];obtain⟨I,a6⟩:∃I,W.heap.size=I:=⟨_,rfl⟩;have cq:Chg (fun _=>False) W W1:=by rw[aC];exact Chg.alloc _ _ _
     have bm:Blk W1 I #[.int .i64 p.st,.string p.tx] 159:=by rw[aC,<-a6];exact Blk.new _ _ _
     have dI:W1.heap.size=I+1:=by rw[aC,<-a6];simp
     have cf:=HI.out.2.1.box.chg cq (fun h=>h);have q1:=cf.cell 0;have f1:=cf.frozen 0;simp only[getElem?_toArray,getElem?_cons_zero]at q1;have dZ:(ks.drop i).length=n+1:=by rw[length_drop];omega
     rw[dZ]at q1;rw[a6];have H1:=bT a6 cq bm cf;clear aC a6 cq bm cf q0 qf t0 p0 p1 hlen d1 d2 dZ;have bA:∀(ad:Value) (C:World),C=W1.setCell ⟨f+3,0,none⟩ ad->gC W 159 ad (ks.drop (i+1)).length (kI (ks.drop (i+1)))->(∀k,dC ad k->k=g)->
       gZ C (f+1) (f+3) ks (ks.drop (i+1)) ad/\Chg (fun k=>k=f+1\/k=f+3) t C/\(∀k,dC ad k->t.heap.size<=k)/\eG ds C t.heap.size/\Blk C I #[.int .i64 p.st,.string p.tx] 159/\(∀k,dC ad k->k<I)/\C.heap.size=I+1:=by
      intro ad C aK hq hg;obtain⟨h1,Q,A,h4⟩:=H1.out;obtain⟨hB,z,B,J,ax⟩:=HI.out;have eT:t.heap.size<=g:=J g ⟨_,_,_,rfl,ca⟩;have hb1:=ch.lt z.set;have cr:Chg (fun k=>k=f+3) W1 C:=by rw[aK];exact Chg.setCell (S:=fun k=>k=f+3) (p:=⟨f+3,0,none⟩) _ (.inl rfl) _
      have fE:=z.row.lt ⟨_,_,_,rfl,ca⟩;refine⟨⟨ch.chg (ch.chg z.set Q (fun h=>h)) cr (by omega),?_,(hq.chg Q (fun _ _ h=>h)).chg cr (fun k hk e=>?_)⟩,?_,fun k hk=>by rw[hg k hk];exact eT,?_,A.chg cr (by have:=z.box.lt;omega),fun k hk=>by rw[hg k hk];omega,?_⟩
      .rw[aK];exact Blk.aj h4 0 _
      .rw[hg k hk]at e;omega
      .exact(B.trans (Q.mono (fun _ h=>h.elim))).trans (cr.mono (fun k hk=> .inr hk))
      .exact(ax.chg Q (fun _ _ _ h=>h)).chg cr (fun D _ hD e=>by omega)
      .rw[aK];simp[setCell,dI]
     have dO:=ca;have ev:f+5<=I:=by have h1:=HI.out.2.2.1.size;have Q:=H1.out.1;omega
     by_cases ea:qc=1;case' pos=>
      subst ea;obtain rfl:n=0:=by have:=HG.out.2.2.2.2.1;rw[length_drop]at this;omega
      obtain⟨cv,cw,cz,cA,cB,cC,cE⟩:=bA (.slice (some ⟨g,off,none⟩) 0 0) _ rfl (by
       have e:ks.drop (i+1)=[]:=eq_nil_of_length_eq_zero (by rw[length_drop];omega);rw[e];exact⟨rfl,.inl ⟨rfl,_,rfl⟩⟩) (by rintro k ⟨eI,n',ek,e,h⟩;cases e;omega)
      have HR:=bV cv cw cz cA cB cC;have Hz:=bP cE;have fe:(Value.slice (some ⟨g,off,none⟩) 0 0).cells= #[Value.slice (some ⟨g,off,none⟩) 0 0]:=rfl;clear cv cw cz cA cB cC cE bA fe;go_upto_region 18 with (fail);generalize W1.setCell ⟨f+3,0,none⟩ (.slice (some ⟨g,off,none⟩) 0 0)=C at HR Hz⊢;generalize Value.slice (some ⟨g,off,none⟩) 0 0=ad at HR⊢
     case' neg=>
      obtain⟨cv,cw,cz,cA,cB,cC,cE⟩:=bA (.slice (some ⟨g,off+2,none⟩) n (qc-1)) _ rfl (by
       have e:(ks.drop (i+1)).length=n:=by rw[length_drop];omega
       rw[e];obtain⟨_,aA,ct,dB,cG,du,aq⟩:=HG.out;rw[aA]at cG aq;simp only[length_cons,e,lI]at cG aq;refine⟨by rw[wM,e],.inr ⟨g,off+2,qc-1,cur,rfl,by omega,ct,by omega,by omega,by omega,fun j hj=>?_⟩⟩;have:=aq (j+2) (by omega);rw[show off+2+j=off+(j+2) by omega,this];rfl) (by rintro k ⟨eI,n',ek,e,h⟩;cases e;rfl)
      have HR:=bV cv cw cz cA cB cC;have Hz:=bP cE;clear cv cw cz cA cB cC cE bA;go_upto_region 18 with (fail);generalize W1.setCell ⟨f+3,0,none⟩ (.slice (some ⟨g,off+2,none⟩) n (qc-1))=C at HR Hz⊢;generalize Value.slice (some ⟨g,off+2,none⟩) n (qc-1)=ad at HR⊢
     all_goals
      have eU:i+1<=2000:=by omega
      clear HO HG H1 q1 f1 ca dO cG du dI h0 eZ e4 cQ;try clear ea
      obtain⟨R,F,aQ,ar,aG,aR⟩:=HR.out;have mk:=HB.out.1.chg F (by omega);have m0:=mk.cell 0;have m1:=mk.cell 1;have m2:=mk.cell 2;have m3:=mk.cell 3;have x0:=aG.cell 0;simp only[getElem?_toArray,getElem?_cons_zero,getElem?_cons_succ]at m0 m1 m2 m3 x0;clear R F aQ ar aG aR mk;go_wp2_with (go_at_call 163;refine(rk _ _ _ _ _ _ _).mono ?_;rintro e w' ⟨rfl,cL⟩);obtain⟨U,aD⟩:∃U:World,U=((C.alloc (.cells #[.int .i64 M.ag,.int .i64 M.start,.slice fa M.final.length fc,.slice aa M.arcs.length ac] 98)).alloc (.cells #[.int .i64 p.st] 3)).alloc (.cells #[.int .i64 0] 3):=⟨_,rfl⟩;try rw[cL]
      rw[<-aD];have g0:Blk U C.heap.size #[.int .i64 M.ag,.int .i64 M.start,.slice fa M.final.length fc,.slice aa M.arcs.length ac] 98:=by rw[aD];exact((Blk.new _ _ _).alloc _).alloc _
      have g1:Blk U (C.heap.size+1) #[.int .i64 p.st] 3:=by rw[aD];have:=(Blk.new (C.alloc (.cells #[.int .i64 M.ag,.int .i64 M.start,.slice fa M.final.length fc,.slice aa M.arcs.length ac] 98)) #[.int .i64 p.st] 3).alloc (.cells #[.int .i64 0] 3);simpa using this
      have g2:Blk U (C.heap.size+2) #[.int .i64 0] 3:=by rw[aD];have:=Blk.new ((C.alloc (.cells #[.int .i64 M.ag,.int .i64 M.start,.slice fa M.final.length fc,.slice aa M.arcs.length ac] 98)).alloc (.cells #[.int .i64 p.st] 3)) #[.int .i64 0] 3;simpa using this
      have V:Chg (fun _=>False) C U:=by rw[aD];exact((Chg.alloc _ _ _).trans (Chg.alloc _ _ _)).trans (Chg.alloc _ _ _)
      have cJ:U.heap.size=C.heap.size+3:=by rw[aD];simp
      obtain⟨o,ho⟩:∃o,C.heap.size=o:=⟨_,rfl⟩;rw[ho]at g0 g1 g2 cJ⊢;have dd:=bQ ho V;clear cL aD m0 m1 m2 m3 x0 V ho;refine j7 (fun u=>(toArray (α:=Value) (.agg #[.int .i64 M.ag,.int .i64 M.start,.slice fa M.final.length fc,.slice aa M.arcs.length ac]:: .map (some bf):: .int .i64 c:: .pointer (some ⟨f,0,none⟩)::u 4::u 5:: .map none:: .bool false:: .pointer (some ⟨f+2,0,none⟩):: .pointer (some ⟨f+3,0,none⟩):: .pointer (some ⟨f+4,0,none⟩)::u 11::u 12::u 13:: .pointer (some ⟨I,0,none⟩)::u 15::u 16::u 17::u 18::u 19::u 20::u 21::u 22::u 23::u 24::u 25::u 26::u 27::u 28::u 29::u 30::u 31::u 32::u 33::u 34::u 35::u 36::u 37::u 38::u 39::u 40::u 41::u 42::u 43::u 44::u 45::u 46::u 47::u 48::u 49::u 50::u 51::u 52::u 53::u 54::u 55::u 56::u 57::u 58::u 59::u 60::u 61::u 62::u 63::u 64::u 65::u 66:: .func (.func 209) #[] #[.pointer (some ⟨o,0,none⟩),.pointer (some ⟨o+1,0,none⟩),.pointer (some ⟨o+2,0,none⟩)]::u 68::u 69::u 70::u 71::u 72::u 73::u 74::u 75::u 76::u 77::u 78::u 79::u 80::u 81::u 82::[]))) rfl ?_;clear u;intro u;obtain⟨R,F,aQ,ar,aG,aR⟩:=HR.out;obtain⟨ho,V⟩:=dd.out;have di:=Hz.out;have et:o<=I+1:=by omega
      have eu:I+1<=o:=by omega
      have eB:U.heap.size<=o+3:=by omega
      have eD:o+3<=U.heap.size:=by omega
      have b3:=R.chg V (fun h=>h) (fun h=>h) (fun _ _ h=>h);have ak:Chg (fun k=>k=f+1\/k=f+3) t U:=F.trans (V.mono (fun _ h=>h.elim));have bL:=ar.chg V (fun _ _ _ h=>h);have bR:=aG.chg V (fun h=>h);have db:=ak.size;have bp:b8 U U.heap.size aa (flat M.arcs):=(HB.out.2.2.2.1.chg ak (by omega) (fun h0 q hq=>by have:=HF.out.2.2 (by rw[cT]at h0;omega) q hq;omega)).more (by omega);have aS:0<M.arcs.length->∀q,aa=some q->q.block<o:=fun h0 q hq=>by have:=HF.out.2.2 h0 q hq;omega
      have cn:jj U o (o+1) (o+2) M.arcs p.st 0 aa ac:=⟨g0.cell 3,g1.cell 0,g2.cell 0,bp⟩;have bI:=HI.out.1.open dR.out;have b1:cD M.ag p.st:=bI.st p (mem_of_getElem? dR.out);have bK:=HB.out.2.2.1.chg ak (by omega);have b4:=HB.out.2.1.chg ak (by omega);have O:=bV b3 ak aQ bL bR (And.intro aR (And.intro cn (And.intro bI (And.intro b1 (And.intro bK b4)))));clear R F aQ ar aG aR b3 ak bL bR bp cn bI b1 bK b4 V ho g0 g1 g2 di cJ;refine(wpIn_wide (n:=5)).1 ?_;refine wpIn_rangeFunc_ownH (α:={x//x∈c7 M.arcs p.st 0}) (encs:=fun x=> #[.agg #[.int .i64 x.1.frm,.int .i64 x.1.inp,.int .i64 x.1.out,.int .i64 x.1.to]]) (Kp:=fw o (o+1) (o+2) M.arcs aa) (S:=fun ys=>ys.map (·.1)=c7 M.arcs p.st 0) (Sp:=fun _=>True) (N:=(c7 M.arcs p.st 0).length) (w0:=U)
       rfl (by omega) (gf:=209) (lb:= #[.pointer (some ⟨o,0,none⟩),.pointer (some ⟨o+1,0,none⟩),.pointer (some ⟨o+2,0,none⟩)]) rfl trivial (enters_of func209 (by kernel_rfl) rfl)
       ?seq (fun h k=>h.trans k) ?kb bX (fun _=>rfl)
       (fun pre W=>∃(G:List Plc) (y:Value),oR M (ez M (·∈fs) c) L i p (pre.map (·.1)) G/\gZ W (f+1) (f+3) G (G.drop (i+1)) y/\Chg (fun k=>k=f+1\/k=f+3\/dC ad k) U W/\(∀k,dC y k->dC ad k\/U.heap.size<=k))
       (fun _ _ _=>False)
       ?hI ?hIx ?h0
       (fun x a' W=>∃g4,a'={ tmps:=(toArray (α:=Value) (.agg #[.int .i64 M.ag,.int .i64 M.start,.slice fa M.final.length fc,.slice aa M.arcs.length ac]:: .map (some bf):: .int .i64 c:: .pointer (some ⟨f,0,none⟩)::u 4::u 5:: .map none:: .bool false:: .pointer (some ⟨f+2,0,none⟩):: .pointer (some ⟨f+3,0,none⟩):: .pointer (some ⟨f+4,0,none⟩)::u 11::u 12::u 13:: .pointer (some ⟨I,0,none⟩):: .pointer (some ⟨g4,0,none⟩)::u 16::u 17::u 18::u 19::u 20::u 21::u 22::u 23::u 24::u 25::u 26::u 27::u 28::u 29::u 30::u 31::u 32::u 33::u 34::u 35::u 36::u 37::u 38::u 39::u 40::u 41::u 42::u 43::u 44::u 45::u 46::u 47::u 48::u 49::u 50::u 51::u 52::u 53::u 54::u 55::u 56::u 57::u 58::u 59::u 60::u 61::u 62::u 63::u 64::u 65::u 66:: .func (.func 209) #[] #[.pointer (some ⟨o,0,none⟩),.pointer (some ⟨o+1,0,none⟩),.pointer (some ⟨o+2,0,none⟩)]:: .agg #[.int .i64 x.1.frm,.int .i64 x.1.inp,.int .i64 x.1.out,.int .i64 x.1.to]::u 69::u 70::u 71::u 72::u 73::u 74::u 75::u 76::u 77::u 78::u 79::u 80::u 81::u 82::[])),defers:=[] }/\Blk W g4 #[.int .i64 x.1.frm,.int .i64 x.1.inp,.int .i64 x.1.out,.int .i64 x.1.to] 171) ?hAx ?assign ?body ?done ?stop
      case seq=>exact rp 4 (by omega) o (o+1) (o+2) M.arcs p.st 0 aa ac HV.out.1.an HV.out.2.1 HV.out.2.2.1 HV.out.1.az (HV.out.2.2.2.2 _ _ O.out.2.2.2.2.2.2.2.2.1 (by omega) (by omega)) U O.out.2.2.2.2.2.2.1
      case kb=>
       intro W l ob fj hl _ _ _;exact⟨putObj_heap_other (by omega),putObj_heap_other (by omega),putObj_heap_other (by omega),fun h0 q hq=>putObj_heap_other (by have:=aS h0 q hq;omega)⟩
      case hI=>
       rintro pre X Y row ⟨G,y,h1,Q,A,h4⟩ hg hr;exact⟨G,y,h1,Q.grown hg (fun r e=>(hr r e).2) (fun r e=>by have:=(hr r e).1;omega),A.grown hg (fun r e=>(hr r e).1),h4⟩
      case hIx=>rintro cc pre X Y row h hg hr;exact h
      case h0=>exact⟨ks,ad,O.out.2.2.2.2.2.2.2.1,O.out.1,Chg.refl _ _,fun k hk=> .inl hk⟩
      case hAx=>
       rintro x a' _ X Y row ⟨g4,rfl,dz⟩ hg hr;exact⟨g4,rfl,j1 dz hg (fun r e=>(hr r e).2)⟩
      case assign=>
       rintro l pre x W K ⟨G,y,h1,Q,A,h4⟩ hK;have fh:=A.size;have al:=O.out.2.2.2.2.2.1;gi_wp2;refine hK _ _ ?_ ?_ ⟨G,y,h1,Q.chg (Chg.alloc (fun _=>False) _ _) (fun h=>h) (fun h=>h) (fun _ _ h=>h),A.trans (Chg.alloc _ _ _),h4⟩ ⟨_,rfl,Blk.new _ _ _⟩
       .exact gj (S:=fun _=>False) _ (Chg.alloc _ _ _) (fun _ h=>h.elim)
       .exact(O.out.2.2.2.2.2.2.1.keep ⟨A.block o (by omega) (fun h=>by rcases h with h |h |h;omega;omega;have:=al _ h;omega),A.block (o+1) (by omega) (fun h=>by rcases h with h |h |h;omega;omega;have:=al _ h;omega),A.block (o+2) (by omega) (fun h=>by rcases h with h |h |h;omega;omega;have:=al _ h;omega),fun h0 q hq=>A.block q.block (by have:=aS h0 q hq;omega) (fun h=>by
          have aH:=HF.out.2.2 h0 q hq;rcases h with h |h |h
          .omega
          .omega
          .have:=O.out.2.2.1 _ h;omega)⟩).below ((Below.refl _ W).alloc bW _)
      case body=>
       rintro l pre ⟨x,b6⟩ a' W hl ey ⟨G,y,h1,Q,A,h4⟩ ⟨g4,rfl,aZ⟩ eW;dsimp only at aZ⊢;have dJ:=HV.out.2.2.2.1 x (ec.1 b6).1;have fi:=A.size;have al:=O.out.2.2.2.2.2.1;have aH:∀k,dC y k->t.heap.size<=k/\(k<I\/U.heap.size<=k):=fun k hk=>by
        rcases h4 k hk with h |h
        .exact⟨O.out.2.2.1 k h,.inl (al k h)⟩
        .exact⟨by omega,.inr h⟩
       have be:=O.out.2.2.2.2.1.chg A (fun h=>by rcases h with h |h |h;omega;omega;have:=al _ h;omega);have bb:=O.out.2.2.2.2.2.2.2.2.2.1.chg A (fun h=>by rcases h with h |h |h;omega;omega;have:=O.out.2.2.1 _ h;omega);have b5:=O.out.2.2.2.2.2.2.2.2.2.2.chg A (fun h=>by rcases h with h |h |h;omega;omega;have:=O.out.2.2.1 _ h;omega);have bB:=bb.cell 0;have bC:=aZ.cell 3;have bD:=be.cell 1;have bE:=aZ.cell 2;simp only[getElem?_toArray,getElem?_cons_zero,getElem?_cons_succ]at bB bC bD bE;have Hh:=bV h1 Q A h4 aZ (And.intro be (And.intro bb b5));clear h1 Q A h4 aZ be bb b5;gi_wp2;refine jE (S:=fun w'=>w'.cell? ⟨f+4,0,none⟩=some (.func (.func 164) #[] #[.pointer (some ⟨f+2,0,none⟩),.pointer (some ⟨f+3,0,none⟩)])/\w'.cell? ⟨g4,3,none⟩=some (.int .i64 x.to)/\w'.cell? ⟨I,1,none⟩=some (.string p.tx)/\w'.cell? ⟨g4,2,none⟩=some (.int .i64 x.out)) (by kernel_rfl) (by kernel_rfl) (by rintro⟨_,_,h⟩;exact h) ?_;have hS:W.drew.cell? ⟨f+4,0,none⟩=some (.func (.func 164) #[] #[.pointer (some ⟨f+2,0,none⟩),.pointer (some ⟨f+3,0,none⟩)])/\W.drew.cell? ⟨g4,3,none⟩=some (.int .i64 x.to)/\W.drew.cell? ⟨I,1,none⟩=some (.string p.tx)/\W.drew.cell? ⟨g4,2,none⟩=some (.int .i64 x.out):=⟨bB,bC,bD,bE⟩;refine wpAnyH_take (i:=0) (v:= .func (.func 164) #[] #[.pointer (some ⟨f+2,0,none⟩),.pointer (some ⟨f+3,0,none⟩)]) rfl (by kernel_rfl) (by kernel_rfl) (by kernel_rfl) (fun _ _ _ h=>h) (Or.inl ⟨by rfl,?_⟩) (by assumption) ?_
       .rintro w' ⟨s0,s1,s2,s3⟩;go_simp
       try simp only[Act.put,setIfInBounds_toArray]
       refine wpAnyH_take (i:=1) (v:= .pointer (some ⟨g4,3,none⟩)) rfl (by kernel_rfl) (by kernel_rfl) (by kernel_rfl) (fun _ _ _ h=>h) (Or.inl ⟨by rfl,?_⟩) (by assumption) ?_
       .rintro w' ⟨s0,s1,s2,s3⟩;go_simp
       try simp only[Act.put]
       refine wpAnyH_take (i:=2) (v:= .int .i64 x.to) rfl (by kernel_rfl) (by kernel_rfl) (by kernel_rfl) (fun _ _ _ h=>h) (Or.inl ⟨by rfl,?_⟩) (by assumption) ?_
       .rintro w' ⟨s0,s1,s2,s3⟩;go_simp
       try simp only[Act.put]
       refine wpAnyH_take (i:=3) (v:= .pointer (some ⟨I,1,none⟩)) rfl (by kernel_rfl) (by kernel_rfl) (by kernel_rfl) (fun _ _ _ h=>h) (Or.inl ⟨by rfl,?_⟩) (by assumption) ?_
       .rintro w' ⟨s0,s1,s2,s3⟩;go_simp
       try simp only[Act.put]
       refine wpAnyH_take (i:=4) (v:= .string p.tx) rfl (by kernel_rfl) (by kernel_rfl) (by kernel_rfl) (fun _ _ _ h=>h) (Or.inl ⟨by rfl,?_⟩) (by assumption) ?_
       .rintro w' ⟨s0,s1,s2,s3⟩;go_simp
       try simp only[Act.put]
       refine wpAnyH_take (i:=5) (v:= .pointer (some ⟨g4,2,none⟩)) rfl (by kernel_rfl) (by kernel_rfl) (by kernel_rfl) (fun _ _ _ h=>h) (Or.inl ⟨by rfl,?_⟩) (by assumption) ?_
       .rintro w' ⟨s0,s1,s2,s3⟩;go_simp
       try simp only[Act.put]
       refine wpAnyH_take (i:=6) (v:= .int .i64 x.out) rfl (by kernel_rfl) (by kernel_rfl) (by kernel_rfl) (fun _ _ _ h=>h) (Or.inl ⟨by rfl,?_⟩) (by assumption) ?_
       .rintro w' ⟨s0,s1,s2,s3⟩;go_simp
       try simp only[Act.put]
       refine wpAnyH_ready (rs:=[7]) (by kernel_rfl) (by simp) (AllReadyH.cons (i:=7) rfl (fun K hK=>?_) AllReadyH.nil);simp only[Act.put,getElem_toArray,getElem_cons_succ,getElem_cons_zero,setIfInBounds_toArray,set_cons_zero,set_cons_succ];go_simp;have cF:=Hh.out.1;have c0:p.tx.size<=1000000:=by have:=cF.aX;omega
       refine(tU p.tx x.out (HV.out.1.arcs x (ec.1 b6).1).2.2.2 c0 _).mono ?_;rintro e w5 ⟨rfl,aM⟩;have ae:w5.cell? ⟨f+4,0,none⟩=some (.func (.func 164) #[] #[.pointer (some ⟨f+2,0,none⟩),.pointer (some ⟨f+3,0,none⟩)])/\w5.cell? ⟨g4,3,none⟩=some (.int .i64 x.to)/\w5.cell? ⟨I,1,none⟩=some (.string p.tx)/\w5.cell? ⟨g4,2,none⟩=some (.int .i64 x.out):=
        ⟨(aM.cell (p:=⟨f+4,0,none⟩) (da hS.1)).trans hS.1,(aM.cell (p:=⟨g4,3,none⟩) (da hS.2.1)).trans hS.2.1,(aM.cell (p:=⟨I,1,none⟩) (da hS.2.2.1)).trans hS.2.2.1,(aM.cell (p:=⟨g4,2,none⟩) (da hS.2.2.2)).trans hS.2.2.2⟩
       have bj:Chg (fun _=>False) W w5:=(Chg.drewN (fun _=>False) W 1).trans (Chg.ai _ aM);have c8:=Hh.out.2.1.chg bj (fun h=>h) (fun h=>h) (fun _ _ h=>h);have cK:=(Hh.out.2.2.2.2.2.2.2.chg bj (fun h=>h)).cell 0;simp only[getElem?_toArray,getElem?_cons_zero]at cK;refine hK.out _ _ ae (fun _=>?_);clear hK K hS bB bC bD bE aM;refine wpAnyH_take (i:=8) (v:= .agg #[.int .i64 x.to,.string (dM p.tx x.out)]) rfl (by kernel_rfl) (by kernel_rfl) (by kernel_rfl) (fun _ _ _ h=>h) (Or.inl ⟨by rfl,?_⟩) (by assumption) ?_
       .rintro w' ⟨s0,s1,s2,s3⟩;go_simp
       refine wpAnyH_ready (rs:=[9]) (by kernel_rfl) (by simp) (AllReadyH.cons (i:=9) rfl (fun K hK=>?_) AllReadyH.nil);simp only[Act.put,getElem_toArray,getElem_cons_succ,getElem_cons_zero,setIfInBounds_toArray,set_cons_zero,set_cons_succ];go_simp;have cd:(G.drop (i+1)).length<=1000000000:=by
        have h1:=cF.len;have Q:pre.length<=20000:=by have:=oz M.arcs p.st 0;have:=HV.out.1.an;omega
        simp only[length_map]at h1;rw[length_drop];omega
       refine(pW (f+2) (f+1) (f+3) G (G.drop (i+1)) y (dy p x) w5 cK c8 (by omega) ⟨by omega,by omega⟩ cd).mono ?_;rintro e w6 ⟨rfl,cM,bg,aE,cI⟩;have dE:∀k,dC y k->k≠g4:=fun k hk e=>by
        obtain⟨bF,ao⟩:=Hh.out.2.1.row.cells hk;have h5:=Hh.out.2.2.2.2.1;unfold Blk at ao h5;rw[e,h5]at ao;injection ao with h1;injection h1 with _ Q;exact absurd Q (by decide)
       have ep:=Hh.out.2.2.2.2.1.lt;have cS:g4≠f+3:=fun e=>by
        have h5:=Hh.out.2.2.2.2.1;have h6:=Hh.out.2.1.box;unfold Blk at h5 h6;rw[e,h6]at h5;injection h5 with h1;injection h1 with _ Q;exact absurd Q (by decide)
       have cU:g4≠f+1:=fun e=>by
        have h5:=Hh.out.2.2.2.2.1;obtain⟨es,cl,hm,_⟩:=Hh.out.2.1.set;unfold Blk at h5;rw[e,hm]at h5;cases h5
       have cX:¬(f+4=f+1\/f+4=f+3\/dC y (f+4)):=fun h=>by rcases h with h |h |h;omega;omega;have:=(aH _ h).1;omega
       have cY:¬(I=f+1\/I=f+3\/dC y I):=fun h=>by rcases h with h |h |h;omega;omega;have:=(aH _ h).2;omega
       have bM:¬(g4=f+1\/g4=f+3\/dC y g4):=fun h=>by rcases h with h |h |h;exact cU h;exact cS h;exact dE _ h rfl
       refine hK.out _ _ ⟨(eN (aE.block _ (da ae.1) cX) 0).trans ae.1,(eN (aE.block _ (da ae.2.1) bM) 3).trans ae.2.1,(eN (aE.block _ (da ae.2.2.1) cY) 1).trans ae.2.2.1,(eN (aE.block _ (da ae.2.2.2) bM) 2).trans ae.2.2.2⟩ (fun _=>?_);clear hK K;refine wpAnyH_done (by kernel_rfl) ?_ _;have ah:Chg (fun k=>k=f+1\/k=f+3\/dC y k) W w6:=(bj.mono (fun _ h=>h.elim)).trans aE;obtain⟨h1,Q,A,h4,_⟩:=Hh.out;have eH:=bj.size;refine⟨nE _ ah (fun k hk=>?_),⟨ah.block o (by omega) (fun h=>by rcases h with h |h |h;omega;omega;have:=(aH _ h).2;omega),ah.block (o+1) (by omega) (fun h=>by rcases h with h |h |h;omega;omega;have:=(aH _ h).2;omega),ah.block (o+2) (by omega) (fun h=>by rcases h with h |h |h;omega;omega;have:=(aH _ h).2;omega),fun hz q hq=>ah.block q.block (by have:=aS hz q hq;omega) (fun h=>by
         have ew:=HF.out.2.2 hz q hq;rcases h with h |h |h
         .omega
         .omega
         .have:=(aH _ h).1;omega)⟩,eC G (dy p x),cM,?_,?_,A.aF ah (fun k hk dh=>?_),fun k hk=>?_⟩
       .rcases hk with rfl |rfl |h
        .exact .inl (by omega)
        .exact .inl (by omega)
        .obtain⟨bF,ao⟩:=Q.row.cells h;exact .inr ⟨_,_,ao⟩
       .rw[map_append];exact h1.step b6 dJ
       .rw[<-A6 (by have:=(List.getElem?_eq_some_iff.1 h1.self).1;omega)];exact bg
       .rcases hk with h |h |h
        .exact .inl h
        .exact .inr (.inl h)
        .rcases h4 k h with h |h
         .exact .inr (.inr h)
         .omega
       .rcases cI k hk with h |h
        .exact h4 k h
        .exact .inr (by omega)
      case done=>
       rintro D ys W' hD dK ⟨G,y,h1,Q,A,h4⟩ hK;rw[dK]at h1;have dq:=h1.close HV.out.1.an;have cR:Chg (fun k=>k=f+1\/k=f+3) t W':=O.out.2.1.aF A (fun k hk dh=>by
        rcases hk with h |h |h
        .exact .inl h
        .exact .inr h
        .have:=O.out.2.2.1 k h;omega)
       have c5:∀k,dC y k->t.heap.size<=k:=fun k hk=>by
        rcases h4 k hk with h |h
        .exact O.out.2.2.1 k h
        .omega
       have cW:eG ({ target:= .collected D,args:= #[] }::ds) W' t.heap.size:=O.out.2.2.2.1.cons A (fun E hE eP h=>by
        rcases h with h |h |h
        .omega
        .omega
        .obtain⟨bF,ao⟩:=O.out.1.row.cells h;unfold Blk at ao;rw[ao]at hE;cases hE) hD db hK
       exact⟨2001-(i+1),by omega,fun k=>if k=14 then .pointer (some ⟨I,0,none⟩) else if k=67 then .func (.func 209) #[] #[.pointer (some ⟨o,0,none⟩),.pointer (some ⟨o+1,0,none⟩),.pointer (some ⟨o+2,0,none⟩)] else u k,_,G,i+1,y,rfl,rfl,eU,dq,Q,cR,c5,cW⟩
      case stop=>rintro D cc pre W hD _ h;exact h.elim
   .have d2:decide ((ks.length:Int)<=2000)=false:=bY;go_wp2_with fail;refine HO.out _ ?b2 ?hb2 (fun h=>absurd h cQ) ?e62 ?e72;case e62=>exact rfl
    case e72=>exact rfl
    case hb2=>simp[cQ]
 have dS:=bP dX;have fv:t.heap.size<=f+5:=by omega
 have fx:f+5<=t.heap.size:=by omega
 clear dX dn fb;have bk:(fs.map eM).map (fun v=>(v,Value.bool true))=fs.map gR:=by rw[map_map];rfl
 by_cases hc:c=0
 .have d0:(c==0)=true:=by simp[hc]
  have Hc:=bP hc;clear hc;obtain⟨ro,c6,hR⟩:=ch.range (P:=prog) HB.out.2.2.2.2.1 underlying155;rw[bk]at hR;have HR:=bP hR;clear hR bk;go_wp2_with fail;refine ck.out _ _ ?_;go_wp2_with fail;clear c6 ck;obtain⟨W1,aC⟩:∃W1:World,W1=t.alloc ro:=⟨_,rfl⟩;rw[<-aC];have ba:Chg (fun _=>False) t W1:=by rw[aC];exact Chg.alloc _ _ _
  have bG:=HR.out;rw[<-aC]at bG;have aw:=HB.out.2.2.2.2.2.chg ba (fun h=>h) (fun h=>h) (fun _ _ h=>h);clear aC;refine j7 (fun u=>(toArray (α:=Value) (.agg #[.int .i64 M.ag,.int .i64 M.start,.slice fa M.final.length fc,.slice aa M.arcs.length ac]:: .map (some bf):: .int .i64 c:: .pointer (some ⟨f,0,none⟩)::u 4::u 5:: .map none:: .bool false:: .pointer (some ⟨f+2,0,none⟩):: .pointer (some ⟨f+3,0,none⟩):: .pointer (some ⟨f+4,0,none⟩)::u 11::u 12::u 13::u 14::u 15::u 16::u 17::u 18::u 19::u 20:: .pointer (some ⟨t.heap.size,0,none⟩)::u 22::u 23::u 24::u 25::u 26::u 27::u 28::u 29::u 30::u 31::u 32::u 33::u 34::u 35::u 36::u 37::u 38::u 39::u 40::u 41::u 42::u 43::u 44::u 45::u 46::u 47::u 48::u 49::u 50::u 51::u 52::u 53::u 54::u 55::u 56::u 57::u 58::u 59::u 60::u 61::u 62::u 63::u 64::u 65::u 66::u 67::u 68::u 69::u 70::u 71::u 72::u 73::u 74::u 75::u 76::u 77::u 78::u 79::u 80::u 81::u 82::[]))) rfl ?_;intro u;refine wp_loop_ghost (fun m a W=>∃(u:Nat->Value) (rest ks:List Plc) (vq:Value),a={ tmps:=(toArray (α:=Value) (.agg #[.int .i64 M.ag,.int .i64 M.start,.slice fa M.final.length fc,.slice aa M.arcs.length ac]:: .map (some bf):: .int .i64 c:: .pointer (some ⟨f,0,none⟩)::u 4::u 5:: .map none:: .bool false:: .pointer (some ⟨f+2,0,none⟩):: .pointer (some ⟨f+3,0,none⟩):: .pointer (some ⟨f+4,0,none⟩)::u 11::u 12::u 13::u 14::u 15::u 16::u 17::u 18::u 19::u 20:: .pointer (some ⟨t.heap.size,0,none⟩)::u 22::u 23::u 24::u 25::u 26::u 27::u 28::u 29::u 30::u 31::u 32::u 33::u 34::u 35::u 36::u 37::u 38::u 39::u 40::u 41::u 42::u 43::u 44::u 45::u 46::u 47::u 48::u 49::u 50::u 51::u 52::u 53::u 54::u 55::u 56::u 57::u 58::u 59::u 60::u 61::u 62::u 63::u 64::u 65::u 66::u 67::u 68::u 69::u 70::u 71::u 72::u 73::u 74::u 75::u 76::u 77::u 78::u 79::u 80::u 81::u 82::[])),defers:=[] }/\m=rest.length/\A0 fs rest ks/\gZ W (f+1) (f+3) ks ks vq/\cx W bf t.heap.size fM (fs.map gR) (rest.map gR)/\Chg (fun k=>k=f+1\/k=f+3) t W/\(∀k,dC vq k->t.heap.size<=k)) fs.length
   ⟨u,fs,[],_,rfl,rfl,A0.start fs,aw,bG,ba.mono (fun _ h=>h.elim),fun k hk=>by obtain⟨_,_,_,e,h⟩:=hk;cases e⟩ ?_
  clear u aw bG ba HR W1;rintro m a W ⟨u,rest,ks,vq,rfl,rfl,hA,z,ay,B,J⟩;have eF:=B.size;rcases cx.next (P:=prog) ay 0 with ⟨hl,aJ⟩ |⟨A',pr,B',w',hl,aJ,Z,aL,bq,bJ⟩
  .have cH:∀ty,(Instr.next (.pointer (some ⟨t.heap.size,0,none⟩)) false ty).run prog W= .ok (.tuple #[.bool false]) W:=fun _=>aJ;have hz:rest=[]:=map_eq_nil_iff.1 hl;subst hz;have HA:=bT hA z B J;clear hl aJ hA z B J ay;go_wp2_with fail;refine dS.out _ _ ?_;have b7:Ph1 M (ez M (·∈fs) c) L ks:=by rw[Hc.out];exact HA.out.1.finish HF.out.1 HF.out.2.1 dv
   exact⟨fun k=>if k=21 then .pointer (some ⟨t.heap.size,0,none⟩) else if k=22 then .tuple #[.bool false] else if k=23 then .bool false else u k,[],ks,vq,rfl,b7,HA.out.2.1,HA.out.2.2.1,HA.out.2.2.2,eG.nil _ _⟩
  .obtain⟨ra,p,rb,dG,rfl,rfl,rfl⟩:=qe hl;have cH:∀ty,(Instr.next (.pointer (some ⟨t.heap.size,0,none⟩)) false ty).run prog W= .ok (.tuple #[.bool true,.agg #[.int .i64 p.st,.string p.tx],.bool true]) w':=fun _=>aJ;have cb:(Instr.entry (.pointer (some ⟨t.heap.size,0,none⟩))).run prog w'= .ok (.tuple #[.agg #[.int .i64 p.st,.string p.tx],.bool true]) w':=bJ;subst dG;have HA:=bV hA z B J ay (And.intro Z (And.intro aL bq));clear hl bJ aJ hA z B J ay Z aL bq;go_upto_region 8 with (fail);obtain⟨hA,z,B,J,ay,Z,aL,bq⟩:=HA.out;have b2:∀r,some t.heap.size=some r->∃o:Obj,W.heap[r]?=some o/\o.isCells=false:=fun r e=>by
    cases e
    obtain⟨_,_,_,_,_,_,_,_,_,h5,_⟩:=ay;exact⟨_,h5,rfl⟩
   have aw:=z.grown aL b2 (fun r e=>by cases e;omega);have bH:=B.grown aL (fun r e=>by cases e;omega);obtain⟨C,aK⟩:∃C:World,C=w'.alloc (.cells #[.int .i64 p.st,.string p.tx] 159):=⟨_,rfl⟩;rw[<-aK];have bm:Blk C w'.heap.size #[.int .i64 p.st,.string p.tx] 159:=by rw[aK];exact Blk.new _ _ _
   have aU:Chg (fun _=>False) w' C:=by rw[aK];exact Chg.alloc _ _ _
   have R:=aw.chg aU (fun h=>h) (fun h=>h) (fun _ _ h=>h);have F:Chg (fun k=>k=f+1\/k=f+3) t C:=bH.trans (aU.mono (fun _ h=>h.elim));have aI:cx C bf t.heap.size fM (fs.map gR) (ra.map gR++rb.map gR):=Z.blocks (aU.block _ (ch.lt Z.isMap) (fun h=>h)) (aU.block _ Z.lt (fun h=>h));have f0:=(HB.out.2.2.1.chg F (by omega)).cell 0;have t0:=(HB.out.2.1.chg F (by omega)).cell 0;have x0:=bm.cell 0;have x1:=bm.cell 1;simp only[getElem?_toArray,getElem?_cons_zero,getElem?_cons_succ]at f0 t0 x0 x1;have eV:ks.length<=1000000000:=by have:=hA.len;omega
   have hQ:=pW (f+2) (f+1) (f+3) ks ks vq p C t0 R (by omega) ⟨by omega,by omega⟩ eV;have H2:=bV hQ R F aI hA J;have di:=F.size;clear hQ R F aI hA J z B ay Z aL aw bH bm aU aK b2 HA bq;clear cH cb;go_wp2_with (go_at_call 164;refine H2.out.1.mono ?_;rintro e w6 ⟨rfl,cM,bg,aE,cI⟩);obtain⟨_,R,F,aI,hA,J⟩:=H2.out;have cZ:¬dC vq t.heap.size:=fun h=>by
    obtain⟨cur,hb⟩:=R.row.cells h;obtain⟨_,_,_,_,_,_,_,_,_,h5,_⟩:=aI;unfold Blk at hb;rw[hb]at h5;cases h5
   rw[tm]at bg;refine⟨(ra++rb).length,by simp,fun k=>if k=11 then .pointer (some ⟨w'.heap.size,0,none⟩) else if k=22 then .tuple #[.bool true,.agg #[.int .i64 p.st,.string p.tx],.bool true] else if k=23 then .bool true else if k=24 then .tuple #[.agg #[.int .i64 p.st,.string p.tx],.bool true] else if k=25 then .agg #[.int .i64 p.st,.string p.tx] else if k=26 then .func (.func 164) #[] #[.pointer (some ⟨f+2,0,none⟩),.pointer (some ⟨f+3,0,none⟩)] else if k=27 then .agg #[.int .i64 p.st,.string p.tx] else if k=28 then .tuple #[] else u k,ra++rb,eC ks p,cM,rfl,rfl,hA.step,bg,?_,F.aF aE (fun k hk dh=>?_),fun k hk=>?_⟩
   .rw[map_append];exact aI.blocks (aE.block _ (ch.lt aI.isMap) (fun h=>by rcases h with h |h |h;omega;omega;have:=J _ h;omega)) (aE.block _ aI.lt (fun h=>by rcases h with h |h |h;omega;omega;exact cZ h))
   .rcases hk with h |h |h
    .exact .inl h
    .exact .inr h
    .have:=J k h;omega
   .rcases cI k hk with h |h
    .exact J k h
    .omega
 .have d0:(c==0)=false:=by simp[hc]
  have Hc:=bP hc;clear hc;obtain⟨ro,c6,hR⟩:=ch.range (P:=prog) HB.out.2.2.2.2.1 underlying155;rw[bk]at hR;have dT:=bP hR;clear hR bk;go_wp2_with fail;refine ck.out _ _ ?_;go_wp2_with fail;clear c6 ck;obtain⟨W1,aC⟩:∃W1:World,W1=t.alloc ro:=⟨_,rfl⟩;rw[<-aC];have ba:Chg (fun _=>False) t W1:=by rw[aC];exact Chg.alloc _ _ _
  have bG:=dT.out;rw[<-aC]at bG;have aw:=HB.out.2.2.2.2.2.chg ba (fun h=>h) (fun h=>h) (fun _ _ h=>h);clear aC;refine j7 (fun u=>(toArray (α:=Value) (.agg #[.int .i64 M.ag,.int .i64 M.start,.slice fa M.final.length fc,.slice aa M.arcs.length ac]:: .map (some bf):: .int .i64 c:: .pointer (some ⟨f,0,none⟩)::u 4::u 5:: .map none:: .bool false:: .pointer (some ⟨f+2,0,none⟩):: .pointer (some ⟨f+3,0,none⟩):: .pointer (some ⟨f+4,0,none⟩)::u 11::u 12::u 13::u 14::u 15::u 16::u 17::u 18::u 19::u 20::u 21::u 22::u 23::u 24::u 25::u 26::u 27::u 28::u 29:: .pointer (some ⟨t.heap.size,0,none⟩)::u 31::u 32::u 33::u 34::u 35::u 36::u 37::u 38::u 39::u 40::u 41::u 42::u 43::u 44::u 45::u 46::u 47::u 48::u 49::u 50::u 51::u 52::u 53::u 54::u 55::u 56::u 57::u 58::u 59::u 60::u 61::u 62::u 63::u 64::u 65::u 66::u 67::u 68::u 69::u 70::u 71::u 72::u 73::u 74::u 75::u 76::u 77::u 78::u 79::u 80::u 81::u 82::[]))) rfl ?_;intro u;refine wp_loop_ghost (fun m a W=>∃(u:Nat->Value) (ds:List Deferred) (rest ks:List Plc) (vq:Value),a={ tmps:=(toArray (α:=Value) (.agg #[.int .i64 M.ag,.int .i64 M.start,.slice fa M.final.length fc,.slice aa M.arcs.length ac]:: .map (some bf):: .int .i64 c:: .pointer (some ⟨f,0,none⟩)::u 4::u 5:: .map none:: .bool false:: .pointer (some ⟨f+2,0,none⟩):: .pointer (some ⟨f+3,0,none⟩):: .pointer (some ⟨f+4,0,none⟩)::u 11::u 12::u 13::u 14::u 15::u 16::u 17::u 18::u 19::u 20::u 21::u 22::u 23::u 24::u 25::u 26::u 27::u 28::u 29:: .pointer (some ⟨t.heap.size,0,none⟩)::u 31::u 32::u 33::u 34::u 35::u 36::u 37::u 38::u 39::u 40::u 41::u 42::u 43::u 44::u 45::u 46::u 47::u 48::u 49::u 50::u 51::u 52::u 53::u 54::u 55::u 56::u 57::u 58::u 59::u 60::u 61::u 62::u 63::u 64::u 65::u 66::u 67::u 68::u 69::u 70::u 71::u 72::u 73::u 74::u 75::u 76::u 77::u 78::u 79::u 80::u 81::u 82::[])),defers:=ds }/\m=rest.length/\A1 M c L fs rest ks/\gZ W (f+1) (f+3) ks ks vq/\cx W bf t.heap.size fM (fs.map gR) (rest.map gR)/\Chg (fun k=>k=f+1\/k=f+3) t W/\(∀k,dC vq k->t.heap.size<=k)/\eG ds W t.heap.size) fs.length
   ⟨u,[],fs,[],_,rfl,rfl,A1.start M c L fs,aw,bG,ba.mono (fun _ h=>h.elim),(fun k hk=>by obtain⟨_,_,_,e,h⟩:=hk;cases e),eG.nil _ _⟩ ?_
  clear u aw bG ba dT W1;rintro m a W ⟨u,ds,rest,ks,ad,rfl,rfl,hA,z,ay,B,J,ax⟩;have eF:=B.size;rcases cx.next (P:=prog) ay 0 with ⟨hl,aJ⟩ |⟨A',pr,B',w',hl,aJ,Z,aL,bq,bJ⟩
  .have cH:∀ty,(Instr.next (.pointer (some ⟨t.heap.size,0,none⟩)) false ty).run prog W= .ok (.tuple #[.bool false]) W:=fun _=>aJ;have hz:rest=[]:=map_eq_nil_iff.1 hl;subst hz;have HA:=bU hA z B J ax;clear hl aJ hA z B J ay ax;go_wp2_with fail;refine dS.out _ _ ?_;have b7:Ph1 M (ez M (·∈fs) c) L ks:=HA.out.1.finish Hc.out dv;exact⟨fun k=>if k=30 then .pointer (some ⟨t.heap.size,0,none⟩) else if k=31 then .tuple #[.bool false] else if k=32 then .bool false else u k,ds,ks,ad,rfl,b7,HA.out.2.1,HA.out.2.2.1,HA.out.2.2.2.1,HA.out.2.2.2.2⟩
  .obtain⟨ra,p,rb,dG,rfl,rfl,rfl⟩:=qe hl;have cH:∀ty,(Instr.next (.pointer (some ⟨t.heap.size,0,none⟩)) false ty).run prog W= .ok (.tuple #[.bool true,.agg #[.int .i64 p.st,.string p.tx],.bool true]) w':=fun _=>aJ;have cb:(Instr.entry (.pointer (some ⟨t.heap.size,0,none⟩))).run prog w'= .ok (.tuple #[.agg #[.int .i64 p.st,.string p.tx],.bool true]) w':=bJ;subst dG;have HA:=bV hA z B J ay (And.intro Z (And.intro aL (And.intro bq ax)));clear hl bJ aJ hA z B J ay Z aL bq ax;go_upto_region 12 with (fail);obtain⟨hA,z,B,J,ay,Z,aL,bq,ax⟩:=HA.out;have b2:∀r,some t.heap.size=some r->∃o:Obj,W.heap[r]?=some o/\o.isCells=false:=fun r e=>by
    cases e
    obtain⟨_,_,_,_,_,_,_,_,_,h5,_⟩:=ay;exact⟨_,h5,rfl⟩
   have aw:=z.grown aL b2 (fun r e=>by cases e;omega);have bH:=B.grown aL (fun r e=>by cases e;omega);have dF:eG ds w' t.heap.size:=by
    obtain⟨Ds,h1,Q,A⟩:=ax;refine⟨Ds,h1,Q,fun D hD=>⟨(A D hD).1,(aL.block D (Array.getElem?_eq_some_iff.1 (A D hD).2).1 (fun e=>?_)).trans (A D hD).2⟩⟩;injection e with e;obtain⟨_,_,_,_,_,_,_,_,_,h5,_⟩:=ay;have:=(A D hD).2;rw[e,h5]at this;cases this
   obtain⟨C,aK⟩:∃C:World,C=w'.alloc (.cells #[.int .i64 p.st,.string p.tx] 159):=⟨_,rfl⟩;rw[<-aK];obtain⟨I,a6⟩:∃I,w'.heap.size=I:=⟨_,rfl⟩;rw[a6];have bm:Blk C I #[.int .i64 p.st,.string p.tx] 159:=by rw[aK,<-a6];exact Blk.new _ _ _
   have aU:Chg (fun _=>False) w' C:=by rw[aK];exact Chg.alloc _ _ _
   have R:=aw.chg aU (fun h=>h) (fun h=>h) (fun _ _ h=>h);have F:Chg (fun k=>k=f+1\/k=f+3) t C:=bH.trans (aU.mono (fun _ h=>h.elim));have ar:=dF.chg aU (fun _ _ _ h=>h);have aI:cx C bf t.heap.size fM (fs.map gR) (ra.map gR++rb.map gR):=Z.blocks (aU.block _ (ch.lt Z.isMap) (fun h=>h)) (aU.block _ Z.lt (fun h=>h));have eb:∀k,dC ad k->k<I:=fun k hk=>by have:=aw.row.lt hk;omega
   have ev:f+5<=I:=by omega
   have cZ:¬dC ad t.heap.size:=fun h=>by
    obtain⟨cur,hb⟩:=R.row.cells h;obtain⟨_,_,_,_,_,_,_,_,_,h5,_⟩:=aI;unfold Blk at hb;rw[hb]at h5;cases h5
   have HR:=bV R F J ar bm eb;have Hz:=bP (show C.heap.size=I+1 by rw[aK,<-a6];simp);have dc:=bQ hA aI;clear hA z B J ay Z aL bq ax b2 aw bH dF aK a6 bm aU R F ar aI eb HA cH cb;obtain⟨R,F,aQ,ar,aG,aR⟩:=HR.out;have mk:=HB.out.1.chg F (by omega);have m0:=mk.cell 0;have m1:=mk.cell 1;have m2:=mk.cell 2;have m3:=mk.cell 3;have x0:=aG.cell 0;simp only[getElem?_toArray,getElem?_cons_zero,getElem?_cons_succ]at m0 m1 m2 m3 x0;clear R F aQ ar aG aR mk;go_wp2_with (go_at_call 163;refine(rk _ _ _ _ _ _ _).mono ?_;rintro e w' ⟨rfl,cL⟩);obtain⟨U,aD⟩:∃U:World,U=((C.alloc (.cells #[.int .i64 M.ag,.int .i64 M.start,.slice fa M.final.length fc,.slice aa M.arcs.length ac] 98)).alloc (.cells #[.int .i64 p.st] 3)).alloc (.cells #[.int .i64 c] 3):=⟨_,rfl⟩;try rw[cL]
   rw[<-aD];have g0:Blk U C.heap.size #[.int .i64 M.ag,.int .i64 M.start,.slice fa M.final.length fc,.slice aa M.arcs.length ac] 98:=by rw[aD];exact((Blk.new _ _ _).alloc _).alloc _
   have g1:Blk U (C.heap.size+1) #[.int .i64 p.st] 3:=by rw[aD];have:=(Blk.new (C.alloc (.cells #[.int .i64 M.ag,.int .i64 M.start,.slice fa M.final.length fc,.slice aa M.arcs.length ac] 98)) #[.int .i64 p.st] 3).alloc (.cells #[.int .i64 c] 3);simpa using this
   have g2:Blk U (C.heap.size+2) #[.int .i64 c] 3:=by rw[aD];have:=Blk.new ((C.alloc (.cells #[.int .i64 M.ag,.int .i64 M.start,.slice fa M.final.length fc,.slice aa M.arcs.length ac] 98)).alloc (.cells #[.int .i64 p.st] 3)) #[.int .i64 c] 3;simpa using this
   have V:Chg (fun _=>False) C U:=by rw[aD];exact((Chg.alloc _ _ _).trans (Chg.alloc _ _ _)).trans (Chg.alloc _ _ _)
   have cJ:U.heap.size=C.heap.size+3:=by rw[aD];simp
   obtain⟨o,ho⟩:∃o,C.heap.size=o:=⟨_,rfl⟩;rw[ho]at g0 g1 g2 cJ⊢;have dd:=bQ ho V;clear cL aD m0 m1 m2 m3 x0 V ho;refine j7 (fun u=>(toArray (α:=Value) (.agg #[.int .i64 M.ag,.int .i64 M.start,.slice fa M.final.length fc,.slice aa M.arcs.length ac]:: .map (some bf):: .int .i64 c:: .pointer (some ⟨f,0,none⟩)::u 4::u 5:: .map none:: .bool false:: .pointer (some ⟨f+2,0,none⟩):: .pointer (some ⟨f+3,0,none⟩):: .pointer (some ⟨f+4,0,none⟩)::u 11:: .pointer (some ⟨I,0,none⟩)::u 13::u 14::u 15::u 16::u 17::u 18::u 19::u 20::u 21::u 22::u 23::u 24::u 25::u 26::u 27::u 28::u 29:: .pointer (some ⟨t.heap.size,0,none⟩)::u 31::u 32::u 33::u 34::u 35::u 36::u 37::u 38:: .func (.func 209) #[] #[.pointer (some ⟨o,0,none⟩),.pointer (some ⟨o+1,0,none⟩),.pointer (some ⟨o+2,0,none⟩)]::u 40::u 41::u 42::u 43::u 44::u 45::u 46::u 47::u 48::u 49::u 50::u 51::u 52::u 53::u 54::u 55::u 56::u 57::u 58::u 59::u 60::u 61::u 62::u 63::u 64::u 65::u 66::u 67::u 68::u 69::u 70::u 71::u 72::u 73::u 74::u 75::u 76::u 77::u 78::u 79::u 80::u 81::u 82::[]))) rfl ?_;clear u;intro u;obtain⟨R,F,aQ,ar,aG,aR⟩:=HR.out;obtain⟨ho,V⟩:=dd.out;have di:=Hz.out;have et:o<=I+1:=by omega
   have eu:I+1<=o:=by omega
   have eB:U.heap.size<=o+3:=by omega
   have eD:o+3<=U.heap.size:=by omega
   have b3:=R.chg V (fun h=>h) (fun h=>h) (fun _ _ h=>h);have ak:Chg (fun k=>k=f+1\/k=f+3) t U:=F.trans (V.mono (fun _ h=>h.elim));have bL:=ar.chg V (fun _ _ _ h=>h);have bR:=aG.chg V (fun h=>h);have db:=ak.size;have bp:b8 U U.heap.size aa (flat M.arcs):=(HB.out.2.2.2.1.chg ak (by omega) (fun h0 q hq=>by have:=HF.out.2.2 (by rw[cT]at h0;omega) q hq;omega)).more (by omega);have aS:0<M.arcs.length->∀q,aa=some q->q.block<o:=fun h0 q hq=>by have:=HF.out.2.2 h0 q hq;omega
   have cn:jj U o (o+1) (o+2) M.arcs p.st c aa ac:=⟨g0.cell 3,g1.cell 0,g2.cell 0,bp⟩;have bI:=dc.out.1.open;have b1:cD M.ag p.st:=HF.out.2.1 p bI.mem;have bK:=HB.out.2.2.1.chg ak (by omega);have b4:=HB.out.2.1.chg ak (by omega);have O:=bV b3 ak aQ bL bR (And.intro aR (And.intro cn (And.intro bI (And.intro b1 (And.intro bK b4)))));clear R F aQ ar aG aR b3 ak bL bR bp cn bI b1 bK b4 V ho g0 g1 g2 di cJ;refine(wpIn_wide (n:=5)).1 ?_;refine wpIn_rangeFunc_ownH (α:={x//x∈c7 M.arcs p.st c}) (encs:=fun x=> #[.agg #[.int .i64 x.1.frm,.int .i64 x.1.inp,.int .i64 x.1.out,.int .i64 x.1.to]]) (Kp:=fw o (o+1) (o+2) M.arcs aa) (S:=fun ys=>ys.map (·.1)=c7 M.arcs p.st c) (Sp:=fun _=>True) (N:=(c7 M.arcs p.st c).length) (w0:=U)
    rfl (by omega) (gf:=209) (lb:= #[.pointer (some ⟨o,0,none⟩),.pointer (some ⟨o+1,0,none⟩),.pointer (some ⟨o+2,0,none⟩)]) rfl trivial (enters_of func209 (by kernel_rfl) rfl)
    ?seq (fun h k=>h.trans k) ?kb bX (fun _=>rfl)
    (fun pre W=>∃(G:List Plc) (y:Value),A1i M c L fs (ra++rb) p (pre.map (·.1)) G/\gZ W (f+1) (f+3) G G y/\Chg (fun k=>k=f+1\/k=f+3\/dC ad k) U W/\(∀k,dC y k->dC ad k\/U.heap.size<=k))
    (fun _ _ _=>False)
    ?hI ?hIx ?h0
    (fun x a' W=>∃g4,a'={ tmps:=(toArray (α:=Value) (.agg #[.int .i64 M.ag,.int .i64 M.start,.slice fa M.final.length fc,.slice aa M.arcs.length ac]:: .map (some bf):: .int .i64 c:: .pointer (some ⟨f,0,none⟩)::u 4::u 5:: .map none:: .bool false:: .pointer (some ⟨f+2,0,none⟩):: .pointer (some ⟨f+3,0,none⟩):: .pointer (some ⟨f+4,0,none⟩)::u 11:: .pointer (some ⟨I,0,none⟩):: .pointer (some ⟨g4,0,none⟩)::u 14::u 15::u 16::u 17::u 18::u 19::u 20::u 21::u 22::u 23::u 24::u 25::u 26::u 27::u 28::u 29:: .pointer (some ⟨t.heap.size,0,none⟩)::u 31::u 32::u 33::u 34::u 35::u 36::u 37::u 38:: .func (.func 209) #[] #[.pointer (some ⟨o,0,none⟩),.pointer (some ⟨o+1,0,none⟩),.pointer (some ⟨o+2,0,none⟩)]:: .agg #[.int .i64 x.1.frm,.int .i64 x.1.inp,.int .i64 x.1.out,.int .i64 x.1.to]::u 41::u 42::u 43::u 44::u 45::u 46::u 47::u 48::u 49::u 50::u 51::u 52::u 53::u 54::u 55::u 56::u 57::u 58::u 59::u 60::u 61::u 62::u 63::u 64::u 65::u 66::u 67::u 68::u 69::u 70::u 71::u 72::u 73::u 74::u 75::u 76::u 77::u 78::u 79::u 80::u 81::u 82::[])),defers:=[] }/\Blk W g4 #[.int .i64 x.1.frm,.int .i64 x.1.inp,.int .i64 x.1.out,.int .i64 x.1.to] 171) ?hAx ?assign ?body ?done ?stop
   case seq=>exact rp 4 (by omega) o (o+1) (o+2) M.arcs p.st c aa ac HV.out.1.an HV.out.2.1 HV.out.2.2.1 HV.out.1.az (HV.out.2.2.2.2 _ _ O.out.2.2.2.2.2.2.2.2.1 eS cq) U O.out.2.2.2.2.2.2.1
   case kb=>
    intro W l ob fj hl _ _ _;exact⟨putObj_heap_other (by omega),putObj_heap_other (by omega),putObj_heap_other (by omega),fun h0 q hq=>putObj_heap_other (by have:=aS h0 q hq;omega)⟩
   case hI=>
    rintro pre X Y row ⟨G,y,h1,Q,A,h4⟩ hg hr;exact⟨G,y,h1,Q.grown hg (fun r e=>(hr r e).2) (fun r e=>by have:=(hr r e).1;omega),A.grown hg (fun r e=>(hr r e).1),h4⟩
   case hIx=>rintro cc pre X Y row h hg hr;exact h
   case h0=>exact⟨ks,ad,O.out.2.2.2.2.2.2.2.1,O.out.1,Chg.refl _ _,fun k hk=> .inl hk⟩
   case hAx=>
    rintro x a' _ X Y row ⟨g4,rfl,dz⟩ hg hr;exact⟨g4,rfl,j1 dz hg (fun r e=>(hr r e).2)⟩
   case assign=>
    rintro l pre x W K ⟨G,y,h1,Q,A,h4⟩ hK;have fh:=A.size;have al:=O.out.2.2.2.2.2.1;gi_wp2;refine hK _ _ ?_ ?_ ⟨G,y,h1,Q.chg (Chg.alloc (fun _=>False) _ _) (fun h=>h) (fun h=>h) (fun _ _ h=>h),A.trans (Chg.alloc _ _ _),h4⟩ ⟨_,rfl,Blk.new _ _ _⟩
    .exact gj (S:=fun _=>False) _ (Chg.alloc _ _ _) (fun _ h=>h.elim)
    .exact(O.out.2.2.2.2.2.2.1.keep ⟨A.block o (by omega) (fun h=>by rcases h with h |h |h;omega;omega;have:=al _ h;omega),A.block (o+1) (by omega) (fun h=>by rcases h with h |h |h;omega;omega;have:=al _ h;omega),A.block (o+2) (by omega) (fun h=>by rcases h with h |h |h;omega;omega;have:=al _ h;omega),fun h0 q hq=>A.block q.block (by have:=aS h0 q hq;omega) (fun h=>by
       have aH:=HF.out.2.2 h0 q hq;rcases h with h |h |h
       .omega
       .omega
       .have:=O.out.2.2.1 _ h;omega)⟩).below ((Below.refl _ W).alloc bW _)
   case body=>
    rintro l pre ⟨x,b6⟩ a' W hl ey ⟨G,y,h1,Q,A,h4⟩ ⟨g4,rfl,aZ⟩ eW;dsimp only at aZ⊢;have dJ:=HV.out.2.2.2.1 x (ec.1 b6).1;have fi:=A.size;have al:=O.out.2.2.2.2.2.1;have aH:∀k,dC y k->t.heap.size<=k/\(k<I\/U.heap.size<=k):=fun k hk=>by
     rcases h4 k hk with h |h
     .exact⟨O.out.2.2.1 k h,.inl (al k h)⟩
     .exact⟨by omega,.inr h⟩
    have be:=O.out.2.2.2.2.1.chg A (fun h=>by rcases h with h |h |h;omega;omega;have:=al _ h;omega);have bb:=O.out.2.2.2.2.2.2.2.2.2.1.chg A (fun h=>by rcases h with h |h |h;omega;omega;have:=O.out.2.2.1 _ h;omega);have b5:=O.out.2.2.2.2.2.2.2.2.2.2.chg A (fun h=>by rcases h with h |h |h;omega;omega;have:=O.out.2.2.1 _ h;omega);have bB:=bb.cell 0;have bC:=aZ.cell 3;have bD:=be.cell 1;have bE:=aZ.cell 2;simp only[getElem?_toArray,getElem?_cons_zero,getElem?_cons_succ]at bB bC bD bE;have Hh:=bV h1 Q A h4 aZ (And.intro be (And.intro bb b5));clear h1 Q A h4 aZ be bb b5;gi_wp2;refine jE (S:=fun w'=>w'.cell? ⟨f+4,0,none⟩=some (.func (.func 164) #[] #[.pointer (some ⟨f+2,0,none⟩),.pointer (some ⟨f+3,0,none⟩)])/\w'.cell? ⟨g4,3,none⟩=some (.int .i64 x.to)/\w'.cell? ⟨I,1,none⟩=some (.string p.tx)/\w'.cell? ⟨g4,2,none⟩=some (.int .i64 x.out)) (by kernel_rfl) (by kernel_rfl) (by rintro⟨_,_,h⟩;exact h) ?_;have hS:W.drew.cell? ⟨f+4,0,none⟩=some (.func (.func 164) #[] #[.pointer (some ⟨f+2,0,none⟩),.pointer (some ⟨f+3,0,none⟩)])/\W.drew.cell? ⟨g4,3,none⟩=some (.int .i64 x.to)/\W.drew.cell? ⟨I,1,none⟩=some (.string p.tx)/\W.drew.cell? ⟨g4,2,none⟩=some (.int .i64 x.out):=⟨bB,bC,bD,bE⟩;refine wpAnyH_take (i:=0) (v:= .func (.func 164) #[] #[.pointer (some ⟨f+2,0,none⟩),.pointer (some ⟨f+3,0,none⟩)]) rfl (by kernel_rfl) (by kernel_rfl) (by kernel_rfl) (fun _ _ _ h=>h) (Or.inl ⟨by rfl,?_⟩) (by assumption) ?_
    .rintro w' ⟨s0,s1,s2,s3⟩;go_simp
    try simp only[Act.put,setIfInBounds_toArray]
    refine wpAnyH_take (i:=1) (v:= .pointer (some ⟨g4,3,none⟩)) rfl (by kernel_rfl) (by kernel_rfl) (by kernel_rfl) (fun _ _ _ h=>h) (Or.inl ⟨by rfl,?_⟩) (by assumption) ?_
    .rintro w' ⟨s0,s1,s2,s3⟩;go_simp
    try simp only[Act.put]
    refine wpAnyH_take (i:=2) (v:= .int .i64 x.to) rfl (by kernel_rfl) (by kernel_rfl) (by kernel_rfl) (fun _ _ _ h=>h) (Or.inl ⟨by rfl,?_⟩) (by assumption) ?_
    .rintro w' ⟨s0,s1,s2,s3⟩;go_simp
    try simp only[Act.put]
    refine wpAnyH_take (i:=3) (v:= .pointer (some ⟨I,1,none⟩)) rfl (by kernel_rfl) (by kernel_rfl) (by kernel_rfl) (fun _ _ _ h=>h) (Or.inl ⟨by rfl,?_⟩) (by assumption) ?_
    .rintro w' ⟨s0,s1,s2,s3⟩;go_simp
    try simp only[Act.put]
    refine wpAnyH_take (i:=4) (v:= .string p.tx) rfl (by kernel_rfl) (by kernel_rfl) (by kernel_rfl) (fun _ _ _ h=>h) (Or.inl ⟨by rfl,?_⟩) (by assumption) ?_
    .rintro w' ⟨s0,s1,s2,s3⟩;go_simp
    try simp only[Act.put]
    refine wpAnyH_take (i:=5) (v:= .pointer (some ⟨g4,2,none⟩)) rfl (by kernel_rfl) (by kernel_rfl) (by kernel_rfl) (fun _ _ _ h=>h) (Or.inl ⟨by rfl,?_⟩) (by assumption) ?_
    .rintro w' ⟨s0,s1,s2,s3⟩;go_simp
    try simp only[Act.put]
    refine wpAnyH_take (i:=6) (v:= .int .i64 x.out) rfl (by kernel_rfl) (by kernel_rfl) (by kernel_rfl) (fun _ _ _ h=>h) (Or.inl ⟨by rfl,?_⟩) (by assumption) ?_
    .rintro w' ⟨s0,s1,s2,s3⟩;go_simp
    try simp only[Act.put]
    refine wpAnyH_ready (rs:=[7]) (by kernel_rfl) (by simp) (AllReadyH.cons (i:=7) rfl (fun K hK=>?_) AllReadyH.nil);simp only[Act.put,getElem_toArray,getElem_cons_succ,getElem_cons_zero,setIfInBounds_toArray,set_cons_zero,set_cons_succ];go_simp;have cF:=Hh.out.1;have c0:p.tx.size<=1000000:=by have:=HF.out.1 p cF.mem;omega
    refine(tU p.tx x.out (HV.out.1.arcs x (ec.1 b6).1).2.2.2 c0 _).mono ?_;rintro e w5 ⟨rfl,aM⟩;have ae:w5.cell? ⟨f+4,0,none⟩=some (.func (.func 164) #[] #[.pointer (some ⟨f+2,0,none⟩),.pointer (some ⟨f+3,0,none⟩)])/\w5.cell? ⟨g4,3,none⟩=some (.int .i64 x.to)/\w5.cell? ⟨I,1,none⟩=some (.string p.tx)/\w5.cell? ⟨g4,2,none⟩=some (.int .i64 x.out):=
     ⟨(aM.cell (p:=⟨f+4,0,none⟩) (da hS.1)).trans hS.1,(aM.cell (p:=⟨g4,3,none⟩) (da hS.2.1)).trans hS.2.1,(aM.cell (p:=⟨I,1,none⟩) (da hS.2.2.1)).trans hS.2.2.1,(aM.cell (p:=⟨g4,2,none⟩) (da hS.2.2.2)).trans hS.2.2.2⟩
    have bj:Chg (fun _=>False) W w5:=(Chg.drewN (fun _=>False) W 1).trans (Chg.ai _ aM);have c8:=Hh.out.2.1.chg bj (fun h=>h) (fun h=>h) (fun _ _ h=>h);have cK:=(Hh.out.2.2.2.2.2.2.2.chg bj (fun h=>h)).cell 0;simp only[getElem?_toArray,getElem?_cons_zero]at cK;refine hK.out _ _ ae (fun _=>?_);clear hK K hS bB bC bD bE aM;refine wpAnyH_take (i:=8) (v:= .agg #[.int .i64 x.to,.string (dM p.tx x.out)]) rfl (by kernel_rfl) (by kernel_rfl) (by kernel_rfl) (fun _ _ _ h=>h) (Or.inl ⟨by rfl,?_⟩) (by assumption) ?_
    .rintro w' ⟨s0,s1,s2,s3⟩;go_simp
    refine wpAnyH_ready (rs:=[9]) (by kernel_rfl) (by simp) (AllReadyH.cons (i:=9) rfl (fun K hK=>?_) AllReadyH.nil);simp only[Act.put,getElem_toArray,getElem_cons_succ,getElem_cons_zero,setIfInBounds_toArray,set_cons_zero,set_cons_succ];go_simp;have cd:G.length<=1000000000:=by
     have h1:=cF.len;have Q:pre.length<=20000:=by have:=oz M.arcs p.st c;have:=HV.out.1.an;omega
     simp only[length_map]at h1;omega
    refine(pW (f+2) (f+1) (f+3) G G y (dy p x) w5 cK c8 (by omega) ⟨by omega,by omega⟩ cd).mono ?_;rintro e w6 ⟨rfl,cM,bg,aE,cI⟩;have dE:∀k,dC y k->k≠g4:=fun k hk e=>by
     obtain⟨bF,ao⟩:=Hh.out.2.1.row.cells hk;have h5:=Hh.out.2.2.2.2.1;unfold Blk at ao h5;rw[e,h5]at ao;injection ao with h1;injection h1 with _ Q;exact absurd Q (by decide)
    have ep:=Hh.out.2.2.2.2.1.lt;have cS:g4≠f+3:=fun e=>by
     have h5:=Hh.out.2.2.2.2.1;have h6:=Hh.out.2.1.box;unfold Blk at h5 h6;rw[e,h6]at h5;injection h5 with h1;injection h1 with _ Q;exact absurd Q (by decide)
    have cU:g4≠f+1:=fun e=>by
     have h5:=Hh.out.2.2.2.2.1;obtain⟨es,cl,hm,_⟩:=Hh.out.2.1.set;unfold Blk at h5;rw[e,hm]at h5;cases h5
    have cX:¬(f+4=f+1\/f+4=f+3\/dC y (f+4)):=fun h=>by rcases h with h |h |h;omega;omega;have:=(aH _ h).1;omega
    have cY:¬(I=f+1\/I=f+3\/dC y I):=fun h=>by rcases h with h |h |h;omega;omega;have:=(aH _ h).2;omega
    have bM:¬(g4=f+1\/g4=f+3\/dC y g4):=fun h=>by rcases h with h |h |h;exact cU h;exact cS h;exact dE _ h rfl
    refine hK.out _ _ ⟨(eN (aE.block _ (da ae.1) cX) 0).trans ae.1,(eN (aE.block _ (da ae.2.1) bM) 3).trans ae.2.1,(eN (aE.block _ (da ae.2.2.1) cY) 1).trans ae.2.2.1,(eN (aE.block _ (da ae.2.2.2) bM) 2).trans ae.2.2.2⟩ (fun _=>?_);clear hK K;refine wpAnyH_done (by kernel_rfl) ?_ _;have ah:Chg (fun k=>k=f+1\/k=f+3\/dC y k) W w6:=(bj.mono (fun _ h=>h.elim)).trans aE;obtain⟨h1,Q,A,h4,_⟩:=Hh.out;have eH:=bj.size;refine⟨nE _ ah (fun k hk=>?_),⟨ah.block o (by omega) (fun h=>by rcases h with h |h |h;omega;omega;have:=(aH _ h).2;omega),ah.block (o+1) (by omega) (fun h=>by rcases h with h |h |h;omega;omega;have:=(aH _ h).2;omega),ah.block (o+2) (by omega) (fun h=>by rcases h with h |h |h;omega;omega;have:=(aH _ h).2;omega),fun hz q hq=>ah.block q.block (by have:=aS hz q hq;omega) (fun h=>by
      have ew:=HF.out.2.2 hz q hq;rcases h with h |h |h
      .omega
      .omega
      .have:=(aH _ h).1;omega)⟩,eC G (dy p x),cM,?_,?_,A.aF ah (fun k hk dh=>?_),fun k hk=>?_⟩
    .rcases hk with rfl |rfl |h
     .exact .inl (by omega)
     .exact .inl (by omega)
     .obtain⟨bF,ao⟩:=Q.row.cells h;exact .inr ⟨_,_,ao⟩
    .rw[map_append];exact h1.step b6 dJ (HF.out.1 p h1.mem)
    .rw[tm]at bg;exact bg
    .rcases hk with h |h |h
     .exact .inl h
     .exact .inr (.inl h)
     .rcases h4 k h with h |h
      .exact .inr (.inr h)
      .omega
    .rcases cI k hk with h |h
     .exact h4 k h
     .exact .inr (by omega)
   case done=>
    rintro D ys W' hD dK ⟨G,y,h1,Q,A,h4⟩ hK;rw[dK]at h1;have dq:=h1.close HV.out.1.an;have cR:Chg (fun k=>k=f+1\/k=f+3) t W':=O.out.2.1.aF A (fun k hk dh=>by
     rcases hk with h |h |h
     .exact .inl h
     .exact .inr h
     .have:=O.out.2.2.1 k h;omega)
    have c5:∀k,dC y k->t.heap.size<=k:=fun k hk=>by
     rcases h4 k hk with h |h
     .exact O.out.2.2.1 k h
     .omega
    have cW:eG ({ target:= .collected D,args:= #[] }::ds) W' t.heap.size:=O.out.2.2.2.1.cons A (fun E hE eP h=>by
     rcases h with h |h |h
     .omega
     .omega
     .obtain⟨bF,ao⟩:=O.out.1.row.cells h;unfold Blk at ao;rw[ao]at hE;cases hE) hD db hK
    have Z:cx W' bf t.heap.size fM (fs.map gR) ((ra++rb).map gR):=by
     rw[map_append];have ff:=ch.lt dc.out.2.isMap;have fg:=dc.out.2.lt;have dt:Chg (fun k=>k=f+1\/k=f+3\/dC ad k) C W':=Chg.aF (dd.out.2.mono (fun _ h=>h.elim)) A (fun k hk _=>hk);exact dc.out.2.blocks (dt.block _ ff (fun h=>by rcases h with h |h |h;omega;omega;have:=O.out.2.2.1 _ h;omega)) (dt.block _ fg (fun h=>by rcases h with h |h |h;omega;omega;exact cZ h))
    exact⟨(ra++rb).length,by simp,fun k=>if k=12 then .pointer (some ⟨I,0,none⟩) else if k=39 then .func (.func 209) #[] #[.pointer (some ⟨o,0,none⟩),.pointer (some ⟨o+1,0,none⟩),.pointer (some ⟨o+2,0,none⟩)] else u k,_,ra++rb,G,y,rfl,rfl,dq,Q,Z,cR,c5,cW⟩
   case stop=>rintro D cc pre W hD _ h;exact h.elim
end
end Go.Proofs.YtmhdgddjeadjjaaGreatDoor
