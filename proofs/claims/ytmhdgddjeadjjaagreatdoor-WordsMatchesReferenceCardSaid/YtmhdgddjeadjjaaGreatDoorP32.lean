/- A part of the proof: what the claim reaches. -/
import Derived.Test.YtmhdgddjeadjjaaGreatDoorP27
import Derived.Test.YtmhdgddjeadjjaaGreatDoorP30
namespace Go.Proofs.YtmhdgddjeadjjaaGreatDoor
open _root_.List Go.Lib _root_.Nat Go.World _root_.Int Go.Proofs.Tryz
variable {a:Arc}{xs:List Value}{f i u:Nat}
section
open Go.RowKit Go.Shelf Classical
theorem oj {w:World}{base:Nat}{e:TypeId}{size n c g k:Nat}(h:w.ownsRow base e size (.slice (some ⟨g,0,none⟩) n c) n xs)(u:Value):(w.setCell ⟨g,k,none⟩ u).ownsRow base e size (.slice (some ⟨g,0,none⟩) n c) n (xs.set k u):=by
 refine⟨by rw[length_set];exact h.1,?_⟩;rcases h.2 with ⟨h,_⟩ |⟨g',cap,cur,a,h1,b,d,f,i,j⟩
 .cases h
 .cases a
  refine .inr ⟨g,c,cur.setIfInBounds k u,rfl,h1,(show Blk w g cur _ from b).aj k u,d,f,by rw[Array.size_setIfInBounds];exact i,?_⟩;rw[Array.toList_setIfInBounds,<-j,take_set]
theorem yY {w:World}{base:Nat}{e:TypeId}{size n:Nat}{v:Value}(h:w.ownsRow base e size v n xs)(q:Nat):(w.drewN q).ownsRow base e size v n xs:=h
theorem yw (w:World)(s:Spl):b8 (w.alloc (.cells #[.slice s.at_ s.ws.length s.cap,.int .i64 s.cost] 48)) (w.heap.size+1) (some ⟨w.heap.size,0,none⟩) s.cells:=fun _=>
 ⟨w.heap.size,0,rfl,lt_succ_self _,fun i u hu=>by rw[Nat.zero_add];exact Box.new w s.cells 48 i u hu⟩
theorem AV (s:Spl):∀u∈s.cells,u.oneCell'=true:=fun u hu=>by
 simp only[Spl.cells,mem_cons,not_mem_nil,or_false]at hu;rcases hu with rfl |rfl<;>rfl
def Spl.aO (x:Spl)(c:Int):Spl:=⟨x.at_,x.cap,x.ws,c⟩
theorem tX:∀{L:List Spl} {i:Nat} {x:Spl} (c:Int),L[i]?=some x->(L.flatMap Spl.cells).set (i*2+1) (.int .i64 c)=(L.set i (x.aO c)).flatMap Spl.cells
 |[],i,x,c,h=>by simp at h
 |y::L,0,x,c,h=>by
  obtain rfl:y=x:=by simpa using h
  rfl
 |y::L,i+1,x,c,h=>by
  have a:=tX (L:=L) (i:=i) c (by simpa using h);rw[set_cons_succ,flatMap_cons,flatMap_cons,<-a,set_append_right _ _ (by show y.cells.length<=_;simp[Spl.cells];omega)];congr 2;simp[Spl.cells];omega
def q7 (L:List Spl)(s:Spl)(M:List Spl):Prop:=
 (∃(i:Nat) (x:Spl),L[i]?=some x/\x.ws=s.ws/\(∀(j:Nat) y,j<i->L[j]?=some y->y.ws≠s.ws)/\M=L.set i (x.aO (min x.cost s.cost)))\/((∀y∈L,y.ws≠s.ws)/\M=L++[s])
theorem zU:(prog.info? 48).map (fun i=>(i.zero,i.size,i.bytes))=some (some (.agg #[.slice none 0 0,.int .i64 0]),2,32):=by kernel_rfl
def DO (base:Nat)(v:Value)(L:List Spl)(s:Spl)(w:World)(e:Ending)(w':World):Prop:=
 ∃(v':Value) (M:List Spl),e= .returned v'/\q7 L s M/\w'.ownsRow base 48 2 v' M.length (M.flatMap Spl.cells)/\Chg (fun k=>some k=v.ownBlock) w w'
set_option maxRecDepth 100000
set_option maxHeartbeats 4000000
theorem Dq (base:Nat)(v:Value)(L:List Spl)(s:Spl)(w:World)(hL:L.length<=1000)(hb:base<=w.heap.size)(A:w.ownsRow base 48 2 v L.length (L.flatMap Spl.cells))(C:∀x∈L,x.ok w w.heap.size)(hs:s.ok w w.heap.size):
  Calls prog 39 #[v,s.v] w (DO base v L s w):=by
 obtain⟨i0,hi,aC,aD,aE⟩:=info_parts zU;unfold Spl.v;go_enter func39,ntmps39;go_upto_region 1 with (fail);generalize B:(w.alloc _)=d;have t:Below w.heap.size w d:=by rw[<-B];exact bX.alloc bW _
 have ab:d.heap.size=w.heap.size+1:=by rw[<-B];simp
 have X:Box d w.heap.size [.slice s.at_ s.ws.length s.cap,.int .i64 s.cost]:=by rw[<-B];exact Box.new w _ 48
 have N:=cJ A t;obtain⟨V,T,rfl,aB,ad⟩:=b8.ah N;have HK:=bP (fun(q:Nat)=>(show((d.drewN q).cell? ⟨w.heap.size,0,none⟩=some (.slice s.at_ s.ws.length s.cap)/\(d.drewN q).cell? ⟨w.heap.size,1,none⟩=some (.int .i64 s.cost))/\fG (d.drewN q) d.heap.size V L/\b8 (d.drewN q) w.heap.size s.at_ (strs s.ws)from
  ⟨X.c2,⟨ad.drewN q,fun x F=>⟨(C x F).1,(((C x F).2.below t bW).more (by omega)).drewN q⟩⟩,(hs.2.below t bW).drewN q⟩))
 have E:=bT N t ab (fun(j:Nat) (e:V=some ⟨j,0,none⟩)=>(show j<w.heap.size from by cases e;exact(A.lt j rfl).2));have aL:=bQ C hs;clear B t ab X N ad aB A C hs;go_wp2_with fail;go_loopw [5] (fun i wr=>∃k:Nat,k<=L.length/\i= .int .i64 k/\(∀(j:Nat) y,j<k->L[j]?=some y->y.ws≠s.ws)/\∃q,wr=d.drewN q) (fun i _=>L.length-(intOf i).toNat);case atStart=>exact⟨0,zero_le _,rfl,fun j y h=>by omega,0,rfl⟩
 case round=>
  obtain⟨k,hk,rfl,aa,q,hq⟩:=hrel;have u:=bQ aa hq;obtain⟨⟨m0,m1⟩,r,D⟩:=HK.out q;rw[<-hq]at m0 m1 r D;clear aa hq;by_cases Y:k<L.length
  .obtain⟨g,o,rfl,hg,hc⟩:=r.get (by omega);obtain⟨x,F⟩:∃x,L[k]=x:=⟨_,rfl⟩;have c1:=hc k Y;rw[F]at c1;obtain⟨x0,x1⟩:=c1;have M:L[k]?=some x:=by rw[getElem?_eq_getElem Y,F]
   have Q:=r.ok x (mem_of_getElem? M);have U:=bP (fun(n:Nat)=>mG x.ws s.ws x.at_ s.at_ x.cap s.cap d.heap.size Q.1 (wr.drewN n) (Q.2.drewN n) ((D.more (by have:=E.out.2.2.1;omega)).drewN n));have H:=bP M;clear hc F M Q r D;by_cases he:x.ws=s.ws;case neg=>
    rw[decide_eq_false he]at U;have G:=bP (show∀(j:Nat) y,j<k+1->L[j]?=some y->y.ws≠s.ws from fun j y e R=>by
     rcases Nat.lt_succ_iff_lt_or_eq.1 e with h |rfl
     .exact u.out.1 j y h R
     .rw[H.out]at R;rw[<-Option.some.inj R];exact he)
    clear he;go_wp2_with fail;go_quiet ((go_at_call 13;exact Calls.quiet_of (U.out _)));go_wp2_with fail;exact⟨⟨k+1,by omega,by go_num,G.out,_,by rw[u.out.2,drewN_drewN]⟩,by simp[intOf];omega⟩
   rw[decide_eq_true he]at U;have He:=bP he;clear he;go_wp2_with fail;go_quiet ((go_at_call 13;exact Calls.quiet_of (U.out _)));go_upto_region 5 with (fail);generalize c:(wr.drewN _)=b;have O:∃q,b=d.drewN q:=⟨_,by rw[<-c,u.out.2,drewN_drewN]⟩;have e1:b.cell? ⟨w.heap.size,1,none⟩=some (.int .i64 s.cost):=by rw[<-c];exact m1
   have e3:b.cell? ⟨g,o+k*2+1,none⟩=some (.int .i64 x.cost):=by rw[<-c];exact x1
   have z:b.ownsRow base 48 2 (.slice (some ⟨g,o,none⟩) L.length T) L.length (L.flatMap Spl.cells):=by obtain⟨q3,h3⟩:=O;rw[h3];exact yY E.out.1 q3
   have P:Below w.heap.size w b:=by obtain⟨q3,h3⟩:=O;rw[h3];exact Go.below_drewN E.out.2.1 q3
   obtain rfl:o=0:=by
    rcases z.2 with ⟨h,_⟩ |⟨g',cap,cur,e9,_⟩
    .cases h
    .cases e9;rfl
   have az:g<w.heap.size:=E.out.2.2.2 _ rfl;have fz:b.frozen? ⟨g,0+k*2+1,none⟩=false:=by
    rcases z.2 with ⟨h,_⟩ |⟨g',cap,cur,e9,_,h1,_⟩
    .cases h
    .cases e9
     exact Blk.frozen (show Blk b g cur _ from h1) _
   have HQ:=bS z P az;clear c O m0 m1 x0 x1 z P;have ax:b.drew.cell? ⟨w.heap.size,1,none⟩=some (.int .i64 s.cost):=e1;have aM:b.drew.cell? ⟨g,k*2+1,none⟩=some (.int .i64 x.cost):=by rw[Nat.zero_add]at e3;exact e3
   have aN:b.drew.frozen? ⟨g,k*2+1,none⟩=false:=by rw[Nat.zero_add]at fz;exact fz
   clear e3 fz;refine wp_region_held_drew (S:=fun w'=>w'.cell? ⟨w.heap.size,1,none⟩=some (.int .i64 s.cost)) (by kernel_rfl) ax (fun aF=>?_);refine tk [0,1,2,3,4,5,7,8] ?_;repeat ((refine tkt (v:=?_) ?_ ?_;rotate_left;·intro w' I;have s1:w'.cell? ⟨w.heap.size,1,none⟩=some (.int .i64 s.cost):=I;go_simp<;>with_reducible rfl);try simp only[pS])
   refine tkn ?_;refine rd1 6 (fun K hK=>?_);go_simp;refine hK.out _ _ (by assumption) (fun _=>?_);clear hK K;try simp only[pS]
   refine tk [9,10,11] ?_;repeat ((refine tkt (v:=?_) ?_ ?_;rotate_left;·intro w' I;have s1:w'.cell? ⟨w.heap.size,1,none⟩=some (.int .i64 s.cost):=I;go_simp<;>with_reducible rfl);try simp only[pS])
   refine tkn ?_;refine rd1 12 (fun K hK=>?_);go_simp;have J:(b.setCell ⟨g,k*2+1,none⟩ (.int .i64 (min x.cost s.cost))).drew.cell? ⟨w.heap.size,1,none⟩=some (.int .i64 s.cost):=by
    show(b.setCell ⟨g,k*2+1,none⟩ (.int .i64 (min x.cost s.cost))).cell? ⟨w.heap.size,1,none⟩=_;rw[cell?_setCell_far _ _ _ _ (by show g≠w.heap.size;have:=HQ.out.2.2;omega)];exact e1
   refine hK.out _ _ J (fun _=>?_);clear hK K;try simp only[pS]
   refine wpAnyH_done (by kernel_rfl) ?_ _;have l:=fk (oj (k:=k*2+1) HQ.out.1 (.int .i64 (min x.cost s.cost)));have Z:(L.set k (x.aO (min x.cost s.cost))).length=L.length:=by simp
   rw[tX _ H.out]at l;have m:Chg (fun j=>some j=(Value.slice (some ⟨g,0,none⟩) L.length T).ownBlock) w (b.setCell ⟨g,k*2+1,none⟩ (.int .i64 (min x.cost s.cost))).drew:=by
    refine Chg.trans (Chg.trans (Chg.ai _ HQ.out.2.1) (Chg.setCell (S:=fun j=>some j=(Value.slice (some ⟨g,0,none⟩) L.length T).ownBlock) (p:=⟨g,k*2+1,none⟩) b (.inl rfl) _)) (Chg.ai _ (Go.below_drewN bX 1))
   have G:=bS l m Z;clear l m J Z;go_wp2_with fail;go_ret;exact⟨_,L.set k (x.aO (min x.cost s.cost)),rfl,.inl ⟨k,x,H.out,He.out,u.out.1,rfl⟩,by rw[G.out.2.2];exact G.out.1,G.out.2.1⟩
  .obtain rfl:k=L.length:=by omega
   have HN:=bP (show∀y∈L,y.ws≠s.ws from fun y R=>by
    obtain⟨j,e⟩:=getElem?_of_mem R;exact u.out.1 j y (List.getElem?_eq_some_iff.1 e).1 e)
   have z:wr.ownsRow base 48 2 (.slice V L.length T) L.length (L.flatMap Spl.cells):=by rw[u.out.2];exact yY E.out.1 q
   have c:Below w.heap.size w wr:=by rw[u.out.2];exact Go.below_drewN E.out.2.1 q
   have Ho:=bQ z c;have ao:=c.size;clear r D z c;go_wp2_with (at_builtin;refine lD rfl _ _ 36 rfl base 48 i0 _ 2 32 underlying36 hi aC aD aE rfl (by decide) _ _ _ rfl (Ho.out.1.alloc _) (some ⟨wr.heap.size,0,none⟩) 1 1 s.cells rfl rfl (yw _ _) (AV _) (by unfold maxLen;omega) (by omega) (by simp;omega) ?_);intro v' w5 f a;have m:Chg (fun k=>some k=(Value.slice V L.length T).ownBlock) w w5:=by
    have h1:Below w.heap.size w (wr.alloc (.cells #[.slice s.at_ s.ws.length s.cap,.int .i64 s.cost] 48)):=Ho.out.2.alloc ao _;refine⟨a.os.trans h1.os,a.tape.trans h1.tape,a.output.trans h1.output,Nat.le_trans h1.size a.size,fun j e aA=>?_⟩;exact(a.block j (Nat.lt_of_lt_of_le e h1.size) aA).trans (h1.block j e)
   rw[show L.flatMap Spl.cells++s.cells=(L++[s]).flatMap Spl.cells by simp,show L.length+1=(L++[s]).length by simp]at f;have H5:=bQ f m;clear f m a m0 m1;go_wp2_with fail;go_ret;exact⟨v',L++[s],rfl,.inr ⟨HN.out,rfl⟩,H5.out.1,H5.out.2⟩
theorem uf:(prog.info? 169).map (fun i=>(i.zero,i.size,i.bytes))=some (some (.agg #[.int .i64 0,.string ByteArray.empty]),2,24):=by kernel_rfl
theorem Eg (ks:List Plc):∀r∈ks.map Plc.cells,r.length=2:=fun r a=>by
 obtain⟨x,_,rfl⟩:=mem_map.1 a;rfl
theorem CH (ks:List Plc)(x:Plc):((ks++[x]).map Plc.cells).flatten=(ks.map Plc.cells).flatten++x.cells:=by
 rw[map_append,flatten_append];simp
structure eW (w0:World)(bb base:Nat)(cells:Array Value)(v:Value)(ks:List Plc)(wr:World):Prop where
 bsz:base<=w0.heap.size
 below:Below base w0 wr
 own:wr.ownsRow base 169 2 v ks.length (ks.map Plc.cells).flatten
 box:Blk wr bb cells 98
section
variable {w0 wr w' : World} {bb base : Nat} {cells : Array Value} {v v' : Value} {ks : List Plc} {x : Plc} {ob : Obj}
theorem eW.size (h:eW w0 bb base cells v ks wr):base<=wr.heap.size:=Nat.le_trans h.bsz h.below.size
theorem eW.up (h:eW w0 bb base cells v ks wr)(a:Below wr.heap.size wr w'):eW w0 bb base cells v ks w':=
 ⟨h.bsz,h.below.trans (a.mono h.size),cJ h.own a,h.box.below a h.box.lt⟩
theorem eW.app (h:eW w0 bb base cells v ks wr)(a:w'.ownsRow base 169 2 v' (ks.length+1) ((ks.map Plc.cells).flatten++x.cells))(b:(wr.alloc ob).grownBy w' v.ownBlock):eW w0 bb base cells v' (ks++[x]) w':=by
 refine⟨h.bsz,h.below.trans ?_,by rw[CH,length_append];exact a,(h.box.alloc ob).grown b (fun e=>(h.box.alloc ob).own_ne (h.own.alloc ob) (by decide) e.symm)⟩;exact(bX.alloc h.size ob).grown b (by have:=h.size;simp;omega) (fun j c=>(h.own.lt j c).1)
theorem eW.rows (h:eW w0 bb base cells v ks wr):∃a c,v= .slice a ks.length c/\c8 wr wr.heap.size 2 a (ks.map Plc.cells):=by
 obtain⟨a,c,e, -,b⟩:=b8.ah h.own;exact⟨a,c,e,b8.rows b (Eg ks) (by decide)⟩
theorem eW.get (h:eW w0 bb base cells v ks wr)(k:ks[i]?=some x):∃g o c,v= .slice (some ⟨g,o,none⟩) ks.length c/\g<wr.heap.size/\wr.cell? ⟨g,o+i*2,none⟩=some (.int .i64 x.st)/\wr.cell? ⟨g,o+i*2+1,none⟩=some (.string x.tx):=by
 obtain⟨a,c,rfl,j⟩:=h.rows;obtain⟨f,e⟩:=List.getElem?_eq_some_iff.1 k;obtain⟨g,o,rfl,d,b⟩:=j.bJ (by omega);have:=b i f;rw[e]at this;exact⟨g,o,c,rfl,d,this.1,this.2⟩
end
def rR (M:cu)(L base:Nat)(ks0:List Plc)(w:World)(e:Ending)(w':World):Prop:=
 ∃v' ks,e= .returned (.tuple #[v',.bool (decide (ks.length<=2000))])/\lR M L ks0 ks/\w'.ownsRow base 169 2 v' ks.length (ks.map Plc.cells).flatten/\Below base w w'
theorem nW {M:cu}{L base:Nat}{ks0 ks:List Plc}{w w':World}{v':Value}{q:Bool}(c:decide (ks.length<=2000)=q)(h:lR M L ks0 ks)(b:w'.ownsRow base 169 2 v' ks.length (ks.map Plc.cells).flatten)(a:Below base w w'):
  rR M L base ks0 w (.returned (.tuple #[v',.bool q])) w':=⟨v',ks,by rw[c],h,b,a⟩
theorem zd {c:Int}(h:dD c):0<=c/\c<128:=by unfold dD at h;omega
theorem qN (M:cu)(v:Value)(hv:cN M)(L base:Nat)(lv:Value)(ks0:List Plc)(hs:o8 M L ks0)(hL:L<=900000)(w:World)(f:base<=w.heap.size)(h:dx w base v M)(J:w.ownsRow base 169 2 lv ks0.length (ks0.map Plc.cells).flatten):
  Calls prog 109 #[v,lv] w (rR M L base ks0 w):=by
 obtain⟨fa,fc,aa,ac,rfl,bE,bD, -,ha⟩:=h;have bu:=hv.an;obtain⟨ja,aN,aO,aP,aQ⟩:=info_parts uf;have HA:=bP (fun(wr:World) (X:Below base w wr) (k:Nat) (hk:k<M.arcs.length)=>by
  obtain⟨b,off,e,f,hc⟩:=ha.arcs (by omega);exact(⟨b,off,e,(X.cell (p:=⟨b,off+k*4,none⟩) f).trans (hc k hk).1,(X.cell (p:=⟨b,off+k*4+1,none⟩) f).trans (hc k hk).2.1,(X.cell (p:=⟨b,off+k*4+2,none⟩) f).trans (hc k hk).2.2.1,(X.cell (p:=⟨b,off+k*4+3,none⟩) f).trans (hc k hk).2.2.2⟩:
   ∃b off,aa=some ⟨b,off,none⟩/\wr.cell? ⟨b,off+k*4,none⟩=some (.int .i64 M.arcs[k].frm)/\wr.cell? ⟨b,off+k*4+1,none⟩=some (.int .i64 M.arcs[k].inp)/\wr.cell? ⟨b,off+k*4+2,none⟩=some (.int .i64 M.arcs[k].out)/\wr.cell? ⟨b,off+k*4+3,none⟩=some (.int .i64 M.arcs[k].to)))
 obtain⟨aG,aI,rfl, -, -⟩:=b8.ah J;obtain⟨bx,ai⟩:∃b:Array Value,b= #[.int .i64 M.ag,.int .i64 M.start,.slice fa M.final.length fc,.slice aa M.arcs.length ac]:=⟨_,rfl⟩;have C:bx[3]?=some (.slice aa M.arcs.length ac):=by rw[ai];rfl
 have H0:=bP (show eW w w.heap.size base bx (.slice aG ks0.length aI) ks0 (w.alloc (.cells #[.int .i64 M.ag,.int .i64 M.start,.slice fa M.final.length fc,.slice aa M.arcs.length ac] 98))from
  ⟨f,bX.alloc f _,cJ J (bX.alloc bW _),by rw[ai];exact Blk.new _ _ _⟩)
 have Hs:=bP hs;have Hv:=bP hv;have aW:=bP C;clear ha J hs f hv C ai;go_enter func109,ntmps109;go_upto_region 1 with (fail);generalize a8:(w.alloc _)=W0 at H0;clear a8;go_wp2_with fail;go_loopw [1,6] (fun lv i wr=>∃(n:Nat) (ks:List Plc) (O:Option Addr) (P:Nat),i= .int .i64 n/\lv= .slice O ks.length P/\nK M L ks0 n ks/\eW w w.heap.size base bx (.slice O ks.length P) ks wr) (fun _ i _=>2001-(intOf i).toNat);case atStart=>exact⟨0,ks0,aG,aI,rfl,rfl,Hs.out.look,H0.out⟩
 case round=>
  obtain⟨n,ks,O,P,rfl,rfl,s,u⟩:=hrel;have hlen:=s.len;have bF:=s.b.il;have bH:=s.il;have A:=bQ s u;clear s u;by_cases ak:n<ks.length/\ks.length<=2000;case neg=>
   have t:=bP (A.out.1.done (by omega));by_cases h2:ks.length<=2000
   .have hd:decide (ks.length<=2000)=true:=decide_eq_true h2;have HD:=bP hd;have ao:ks.length<=n:=by omega
    have aC:decide ((ks.length:Int)<=2000)=true:=bZ;clear hd ak;go_wp2_with fail;go_ret2;exact nW HD.out t.out A.out.2.own A.out.2.below
   .have hd:decide (ks.length<=2000)=false:=decide_eq_false h2;have HD:=bP hd;have h2:2000<ks.length:=by omega
    have aC:decide ((ks.length:Int)<=2000)=false:=bY;clear hd ak;by_cases ao:n<ks.length
    .go_wp2_with fail;go_ret2;exact nW HD.out t.out A.out.2.own A.out.2.below
    .go_wp2_with fail;go_ret2;exact nW HD.out t.out A.out.2.own A.out.2.below
  obtain⟨ao,a6⟩:=ak;have aC:decide ((ks.length:Int)<=2000)=true:=bZ;obtain⟨p,hp⟩:∃p,ks[n]?=some p:=⟨_,getElem?_eq_getElem ao⟩;have HP:=bP (A.out.1.open hp a6);have aA:=bP A.out.2;clear A hp;go_wp2_with fail;go_loopw [1,7] (fun lv j wr=>∃(k:Nat) (ks:List Plc) (O:Option Addr) (P:Nat),k<=M.arcs.length/\j= .int .i64 k/\lv= .slice O ks.length P/\iZ M L ks0 n p k ks/\eW w w.heap.size base bx (.slice O ks.length P) ks wr) (fun _ j _=>M.arcs.length-(intOf j).toNat);case atStart=>exact⟨0,ks,O,P,zero_le _,rfl,rfl,HP.out,aA.out⟩
  case round=>
   clear HP aA;obtain⟨k,l,bg,aK,hk,rfl,rfl,al,u⟩:=hrel;have bz:=al.len;have y:=bQ al u;have m3:wr.cell? ⟨w.heap.size,3,none⟩=some (.slice aa M.arcs.length ac):=(u.box.cell 3).trans aW.out;clear al u;by_cases aD:k<M.arcs.length;case neg=>
    obtain rfl:k=M.arcs.length:=by omega
    have t:=bP (y.out.1.close Hv.out (by omega));have bG:=t.out.len;go_wp2_with fail;exact⟨⟨n+1,l,bg,aK,by go_num,rfl,t.out,y.out.2⟩,by simp[intOf];omega⟩
   obtain⟨b,off,rfl,x0,x1,x2,x3⟩:=HA.out wr y.out.2.below k aD;obtain⟨a,ad⟩:∃a,M.arcs[k]=a:=⟨_,rfl⟩;have ae:M.arcs[k]?=some a:=by rw[getElem?_eq_getElem aD,ad]
   rw[ad]at x0 x1 x2 x3;have Z:=bP ae;obtain⟨g,o,c',e9,hg,y0,y1⟩:=y.out.2.get y.out.1.c.self;cases e9
   have bI:n<l.length:=(List.getElem?_eq_some_iff.1 y.out.1.c.self).1;have aq:p.tx.size<=1000000:=by have:=y.out.1.c.aX;omega
   have E:=zd (Hv.out.arcs a (mem_of_getElem? ae)).2.2.2;clear ad ae;go_upto_region 8 with (fail);obtain⟨d,U⟩:∃d:World,d=wr.alloc (.cells #[.int .i64 a.frm,.int .i64 a.inp,.int .i64 a.out,.int .i64 a.to] 171):=⟨_,rfl⟩;rw[<-U];have B:Below wr.heap.size wr d:=by rw[U];exact bX.alloc bW _
   have q:Blk d wr.heap.size #[.int .i64 a.frm,.int .i64 a.inp,.int .i64 a.out,.int .i64 a.to] 171:=by rw[U];exact Blk.new _ _ _
   have m:=bP (fun(w':World) (f:Below d.heap.size d w')=>(show(w'.cell? ⟨wr.heap.size,0,none⟩=some (.int .i64 a.frm)/\w'.cell? ⟨wr.heap.size,1,none⟩=some (.int .i64 a.inp)/\w'.cell? ⟨wr.heap.size,2,none⟩=some (.int .i64 a.out)/\w'.cell? ⟨wr.heap.size,3,none⟩=some (.int .i64 a.to))/\w'.cell? ⟨g,o+n*2,none⟩=some (.int .i64 p.st)/\w'.cell? ⟨g,o+n*2+1,none⟩=some (.string p.tx)from
    ⟨⟨(q.below f q.lt).cell 0,(q.below f q.lt).cell 1,(q.below f q.lt).cell 2,(q.below f q.lt).cell 3⟩,((B.trans (f.mono B.size)).cell (p:=⟨g,_,none⟩) hg).trans y0,((B.trans (f.mono B.size)).cell (p:=⟨g,_,none⟩) hg).trans y1⟩))
   have aY:=bP (y.out.2.up B);have bw:=q.lt;clear U B q x0 x1 x2 x3 y0 y1 m3;go_cut [9] (fun v wx=>v= .pointer (some ⟨d.heap.size,0,none⟩)/\Box wx d.heap.size (Plc.cells ⟨a.to,dM p.tx a.out⟩)/\Below d.heap.size d wx/\d.heap.size<wx.heap.size);case first=>
    refine wp_region_held_drew (S:=fun w'=>Below d.heap.size d w') (by kernel_rfl) (Go.below_drewN (Below.refl _ d) 1) (fun aw=>?_);refine tk [0,1,2,3,4,5,6,7,8] ?_;repeat ((refine tkt (v:=?_) ?_ ?_;rotate_left;·intro w' r;obtain⟨⟨s0,s1,s2,s3⟩,s4,s5⟩:=m.out w' r;go_simp<;>with_reducible rfl);try simp only[pS])
    refine tkn ?_;refine rd2 9 11 (fun K hK=>?_) (fun K hK=>?_)
    .go_simp;go_at_call 110;refine(j4 p.tx a.out aq E.1 E.2 _).mono ?_;rintro e Q ⟨rfl,rfl⟩;refine hK.out _ _ (by exact Go.below_drewN (Below.refl _ d) 1) (fun _=>?_);clear hK K;try simp only[pS]
     refine tk [10] ?_;refine tkt (v:=?_) ?_ ?_;rotate_left
     .intro w' r;obtain⟨⟨s0,s1,s2,s3⟩,s4,s5⟩:=m.out w' r;go_simp<;>with_reducible rfl
     try simp only[pS]
     refine tkn ?_;refine rd1 11 (fun K hK=>?_);go_simp;refine hK.out _ _ (by exact((Below.refl _ d).alloc bW _).trans (Go.below_drewN bX 1)) (fun _=>?_);clear hK K;try simp only[pS]
     refine rd1 12 (fun K hK=>?_);go_simp;refine hK.out _ _ (by exact((Below.refl _ d).alloc bW _).trans (Go.below_drewN bX 1)) (fun _=>?_);clear hK K;try simp only[pS]
     refine wpAnyH_done (by kernel_rfl) ?_ _;go_wp2_with fail;go_meet;exact⟨rfl,Box.new d (Plc.cells ⟨a.to,dM p.tx a.out⟩) 169,((Below.refl _ d).alloc bW _).trans (Go.below_drewN bX 1),by simp⟩
    .go_simp;refine hK.out _ _ (by exact((Below.refl _ d).alloc bW _).trans (Go.below_drewN bX 1)) (fun _=>?_);clear hK K;try simp only[pS]
     refine rd1 9 (fun K hK=>?_);go_simp;go_at_call 110;refine(j4 p.tx a.out aq E.1 E.2 _).mono ?_;rintro e Q ⟨rfl,rfl⟩;refine hK.out _ _ (by exact((Below.refl _ d).alloc bW _).trans (Go.below_drewN bX 1)) (fun _=>?_);clear hK K;try simp only[pS]
     refine tk [10] ?_;refine tkt (v:=?_) ?_ ?_;rotate_left
     .intro w' r;obtain⟨⟨s0,s1,s2,s3⟩,s4,s5⟩:=m.out w' r;go_simp<;>with_reducible rfl
     try simp only[pS]
     refine tkn ?_;refine rd1 12 (fun K hK=>?_);go_simp;refine hK.out _ _ (by exact((Below.refl _ d).alloc bW _).trans (Go.below_drewN bX 1)) (fun _=>?_);clear hK K;try simp only[pS]
     refine wpAnyH_done (by kernel_rfl) ?_ _;go_wp2_with fail;go_meet;exact⟨rfl,Box.new d (Plc.cells ⟨a.to,dM p.tx a.out⟩) 169,((Below.refl _ d).alloc bW _).trans (Go.below_drewN bX 1),by simp⟩
   case rest=>
    obtain⟨rfl,H,V,N⟩:=hcut;obtain⟨wd,rfl⟩:∃wd:World,wd=wc:=⟨_,rfl⟩;obtain⟨x,hx⟩:∃x:Plc,x=⟨a.to,dM p.tx a.out⟩:=⟨_,rfl⟩;rw[<-hx]at H;have HX:=bP hx;obtain⟨⟨z0,z1,z2,z3⟩,z4,z5⟩:=m.out wd V;have R:=bP (aY.out.up V);have af:=V;clear hx V m;by_cases I:a.frm=p.st;case neg=>
     have d1:(a.frm==p.st)=false:=by simpa using I
     have t:=bP (y.out.1.aE Z.out (fun h=>I h.1));clear I;go_wp2_with fail;go_quiet (fail);go_wp2_with fail;exact⟨⟨k+1,l,_,_,by omega,by go_num,rfl,t.out,R.out.up (Go.below_drewN bX _)⟩,by simp[intOf];omega⟩
    have d1:(a.frm==p.st)=true:=by simpa using I
    by_cases D:a.inp=0;case neg=>
     have d2:(a.inp==0)=false:=by simpa using D
     have t:=bP (y.out.1.aE Z.out (fun h=>D h.2));clear I D;go_wp2_with fail;go_quiet (fail);go_wp2_with fail;exact⟨⟨k+1,l,_,_,by omega,by go_num,rfl,t.out,R.out.up (Go.below_drewN bX _)⟩,by simp[intOf];omega⟩
    have d2:(a.inp==0)=true:=by simpa using D
    have t:=bP (show iZ M L ks0 n p (k+1) (eC l x)from by rw[HX.out];exact y.out.1.hit Hv.out Z.out ⟨I,D⟩);clear I D;obtain⟨z6,z7⟩:=H.c2;have m:=bP (fun(w':World) (f:Below wd.heap.size wd w')=>(show w'.cell? ⟨wr.heap.size,0,none⟩=some (.int .i64 a.frm)/\w'.cell? ⟨wr.heap.size,1,none⟩=some (.int .i64 a.inp)/\w'.cell? ⟨g,o+n*2,none⟩=some (.int .i64 p.st)/\w'.cell? ⟨d.heap.size,0,none⟩=some (.int .i64 x.st)/\w'.cell? ⟨d.heap.size,1,none⟩=some (.string x.tx)from by
     have aF:wr.heap.size<wd.heap.size:=by have:=af.size;omega
     exact⟨(f.cell (p:=⟨wr.heap.size,_,none⟩) aF).trans z0,(f.cell (p:=⟨wr.heap.size,_,none⟩) aF).trans z1,(f.cell (p:=⟨g,_,none⟩) (by show g<wd.heap.size;omega)).trans z4,(f.cell (p:=⟨d.heap.size,_,none⟩) N).trans z6,(f.cell (p:=⟨d.heap.size,_,none⟩) N).trans z7⟩))
    have HH:=bP (fun(w':World) (f:Below wd.heap.size wd w')=>(show Calls prog 111 #[.slice (some ⟨g,o,none⟩) l.length aK,.agg #[.int .i64 x.st,.string x.tx]] w' (fun e Q=>e= .returned (.bool (decide (x∈l)))/\Below w'.heap.size w' Q)from by
     obtain⟨ra,rc,e8,hr⟩:=(R.out.up f).rows;cases e8
     exact(xB l x _ _ (by omega) w' hr)))
    clear z0 z1 z2 z3 z4 z5 z6 z7 H af N;go_upto_region 9 with (fail);go_cut [62] (fun v wx=>v= .bool (!decide (x∈l))/\Below wd.heap.size wd wx);case first=>
     refine wp_region_held_drew (S:=fun w'=>Below wd.heap.size wd w') (by kernel_rfl) (Go.below_drewN (Below.refl _ wd) 1) (fun aw=>?_);refine tk [0,1,2,3,4,5,6,7,8,9,10,11,12,13,14,15] ?_;repeat ((refine tkt (v:=?_) ?_ ?_;rotate_left;·intro w' r;obtain⟨s0,s1,s2,s3,s4⟩:=m.out w' r;go_simp<;>with_reducible rfl);try simp only[pS])
     refine tkn ?_;refine rd1 16 (fun K hK=>?_);go_simp;go_at_call 111;refine(HH.out _ (Go.below_drewN (Below.refl _ wd) 1)).mono ?_;rintro e Q ⟨rfl,bb⟩;have aB:Below wd.heap.size wd Q:=(Go.below_drewN (Below.refl _ wd) 1).trans bb;refine hK.out _ _ aB (fun _=>?_);clear hK K;try simp only[pS]
     refine tk [17,18] ?_;repeat ((refine tkt (v:=?_) ?_ ?_;rotate_left;·intro w' r;obtain⟨s0,s1,s2,s3,s4⟩:=m.out w' r;go_simp<;>with_reducible rfl);try simp only[pS])
     refine tkn ?_;refine wpAnyH_done (by kernel_rfl) ?_ _;go_wp2_with fail;go_meet;exact⟨rfl,aB⟩
    case rest=>
     obtain⟨rfl,C⟩:=hcut;have T:=bP (R.out.up C);obtain⟨z6,z7⟩:wc.cell? ⟨d.heap.size,0,none⟩=some (.int .i64 x.st)/\wc.cell? ⟨d.heap.size,1,none⟩=some (.string x.tx):=(m.out wc C).2.2.2;clear C m HH;by_cases hm:x∈l
     .have z:eC l x=l:=by unfold eC;rw[if_pos hm]
      have Y:=bP (show iZ M L ks0 n p (k+1) l from by rw[<-z];exact t.out);rw[decide_eq_true hm];clear hm z;go_wp2_with fail;exact⟨⟨k+1,l,_,_,by omega,by go_num,rfl,Y.out,T.out⟩,by simp[intOf];omega⟩
     .have z:eC l x=l++[x]:=by unfold eC;rw[if_neg hm]
      have Y:=bP (show iZ M L ks0 n p (k+1) (l++[x])from by rw[<-z];exact t.out);rw[decide_eq_false hm];have bB:=T.out.size;clear hm z;go_wp2_with (at_builtin;refine wpList_append_own_at _ rfl _ _ 165 rfl base 169 ja _ 2 24 underlying165 aN aO aP aQ rfl (by decide) _ _ _ rfl (T.out.own.alloc _) ⟨wc.heap.size,0,none⟩ 1 1 x.cells rfl rfl (by exact dQ _ _ _) (by simp[Value.oneCell',Plc.cells]) (by unfold maxLen;omega) (by omega) (by simp;omega) ?_);intro v5 Q F G _ _;have h5:=T.out.app F G;obtain⟨aH,aJ,rfl, -, -⟩:=b8.ah F;have H5:=bP (show eW w w.heap.size base bx (.slice aH (l++[x]).length aJ) (l++[x]) Q from by rw[length_append];exact h5);have bd:l.length+1=(l++[x]).length:=by simp
      rw[bd];clear F G h5;go_wp2_with fail;exact⟨⟨k+1,l++[x],aH,aJ,by omega,by go_num,rfl,Y.out,H5.out⟩,by simp[intOf];omega⟩
theorem b8.take {w:World}{B:Nat}{a:Option Addr}(h:b8 w B a xs)(i:Nat):b8 w B a (xs.take i):=fun g=>by
 obtain⟨b,off,e,d,f⟩:=h (by rw[length_take]at g;omega);exact⟨b,off,e,d,fun j x c=>f j x (by
  rw[getElem?_take]at c;split at c
  .exact c
  .cases c)⟩
theorem b8.drop {w:World}{B b off:Nat}(h:b8 w B (some ⟨b,off,none⟩) xs)(i:Nat):b8 w B (some ⟨b,off+i,none⟩) (xs.drop i):=fun f=>by
 obtain⟨k,g,e,c,d⟩:=h (by rw[length_drop]at f;omega);cases e
 exact⟨b,off+i,rfl,c,fun j x a=>by
  rw[getElem?_drop]at a;rw[Nat.add_assoc];exact d _ x a⟩
def AI (base:Nat)(l:List ByteArray)(s:ByteArray)(w:World)(e:Ending)(w':World):Prop:=
 ∃v' a,e= .returned v'/\nN l s a/\w'.ownsRow base 9 1 v' a.length (strs a)/\Below w.heap.size w w'
theorem Ck (l:List ByteArray)(k:Nat):strs (l.drop k)=(strs l).drop k:=by simp[strs]
theorem Cm (l:List ByteArray)(k:Nat):strs (l.take k)=(strs l).take k:=by simp[strs]
theorem CI {a b:ByteArray}(h:¬bl a<bl b):Op.bytesLess a.toList b.toList=false:=by
 cases c:Op.bytesLess a.toList b.toList with
 |false=>rfl
 |true=>exact absurd (nR.1 c) h
theorem Au (base:Nat)(v:Value)(l:List ByteArray)(s:ByteArray)(w:World)(hl:l.length<=100000)(V:base<=w.heap.size)(ak:eO l)(aa:w.ownsRow base 9 1 v l.length (strs l)):
  Calls prog 113 #[v,.string s] w (AI base l s w):=by
 obtain⟨i0,G,B,C,D⟩:=info_parts fP;obtain⟨va,U,rfl,aI,al⟩:=b8.ah aa;have O:=bT aa ak V al;clear ak V aa al;go_enter func113,ntmps113;go_wp2_with fail;go_loopw [5] (fun i wr=>∃k:Nat,k<=l.length/\i= .int .i64 k/\(∀j t,j<k->l[j]?=some t->bl t<bl s)/\wr=w) (fun i _=>l.length-(intOf i).toNat);case atStart=>exact⟨0,zero_le _,rfl,fun j t h=>by omega,rfl⟩
 case round=>
  obtain⟨k,hk,rfl,aj,aw⟩:=hrel;subst aw;have HI:=bP aj;clear aj;by_cases ai:k<l.length;case neg=>
   obtain rfl:k=l.length:=by omega
   have X:=bP (nN.there (i:=l.length) O.out.2.1 HI.out (fun t ht=>by rw[getElem?_eq_none bW]at ht;cases ht));have ax:True:=trivial;have T:=bP (fun(w':World) (_:Below wr.heap.size wr w')=>True.intro);rcases O.out.1.2 with ⟨e0,h0⟩ |⟨g,an,cur,e0,aF,au,aC, -, -, -⟩
   .obtain rfl:l=[]:=eq_nil_of_length_eq_zero h0;cases e0
    go_upto_region 6 with (fail);refine wp_region_held_drew (S:=fun w'=>Below wr.heap.size wr w') (by kernel_rfl) (Go.below_drewN (Below.refl _ wr) 1) (fun ab=>?_);refine tk [1,2,3,5,8,9,10] ?_;repeat ((refine tkt (v:=?_) ?_ ?_;rotate_left;·intro w' E;obtain⟨⟩:=T.out w' E;go_simp<;>with_reducible rfl);try simp only[pS])
    refine tkn ?_;refine rd2 0 6 (fun K hK=>?_) (fun K hK=>?_)
    .have x:Below wr.heap.size wr (wr.alloc (.cells #[] 9)).drew:=((Below.refl _ wr).alloc bW _).trans (Go.below_drewN bX 1);go_simp;refine hK.out _ _ x (fun _=>?_);clear hK K;try simp only[pS]
     refine rd2 4 6 (fun K hK=>?_) (fun K hK=>?_)
     .refine cq (by rfl) _ _ _ (by rfl) wr.heap.size 9 i0 _ 1 16 underlying29 G B C D rfl (by decide) _ 0 [] (by rfl) (fk (eE wr 9 1)) none 0 0 [] (by rfl) (by simp;try omega) ((fun(F:World) (_:Below wr.heap.size wr F)=>(show b8 F F.heap.size none []from fun Q=>by simp at Q)) _ x) (by first |exact dw |simp) (by unfold maxLen;omega) (by omega) x.size ?_;intro v1 A m p;rw[Nat.zero_add,nil_append]at m;have f:Below wr.heap.size wr A:=x.grown p x.size (fun k hk=>by cases hk;simp);refine hK.out _ _ f (fun _=>?_);clear hK K;try simp only[pS]
      refine rd1 6 (fun K hK=>?_);have M:Below wr.heap.size wr (A.alloc (.cells #[.string s] 9)):=f.alloc f.size _;have N:=ownsRow.alloc m (.cells #[.string s] 9);have I:Blk (A.alloc (.cells #[.string s] 9)) A.heap.size #[.string s] 9:=Blk.new _ _ _;go_simp;refine hK.out _ _ M (fun _=>?_);clear hK K;try simp only[pS]
      refine rd1 7 (fun K hK=>?_);refine cq (by rfl) _ _ _ (by rfl) wr.heap.size 9 i0 _ 1 16 underlying29 G B C D rfl (by decide) _ 0 _ (by rfl) N (some ⟨A.heap.size,0,none⟩) 1 1 [.string s] (by rfl) rfl (dE (xs:=[.string s]) I) (ef _) (by unfold maxLen;omega) (by omega) M.size ?_;intro v2 J d z;have c:Below wr.heap.size wr J:=M.grown z M.size (fun k hk=>(N.lt k hk).1);refine hK.out _ _ c (fun _=>?_);clear hK K;try simp only[pS]
      obtain⟨a2,c2,rfl, -, -⟩:=b8.ah d;refine rd1 11 (fun K hK=>?_);refine cq (by rfl) _ _ _ (by rfl) wr.heap.size 9 i0 _ 1 16 underlying29 G B C D rfl (by decide) _ (0+1) _ (by rfl) d none 0 0 [] (by rfl) (by simp;try omega) ((fun(F:World) (_:Below wr.heap.size wr F)=>(show b8 F F.heap.size none []from fun Q=>by simp at Q)) _ c) (by first |exact dw |simp) (by unfold maxLen;omega) (by omega) c.size ?_;intro v3 L r n;have o:Below wr.heap.size wr L:=c.grown n c.size (fun k hk=>(d.lt k hk).1);refine hK.out _ _ o (fun _=>?_);clear hK K;try simp only[pS]
      refine tk [12] ?_;refine tkt (v:=?_) ?_ ?_;rotate_left
      .intro w' E;obtain⟨⟩:=T.out w' E;go_simp<;>with_reducible rfl
      try simp only[pS]
      refine tkn ?_;refine wpAnyH_done (by kernel_rfl) ?_ _;have H:=bQ r o;clear r o n;go_wp2_with fail;all_goals (go_ret;exact⟨_,[s],rfl,by simpa using X.out,cP (by simpa [strs]using H.out.1) O.out.2.2.1,H.out.2⟩)
     .have y:Below wr.heap.size wr ((wr.alloc (.cells #[] 9)).drew.alloc (.cells #[.string s] 9)):=x.alloc x.size _;have P:Blk ((wr.alloc (.cells #[] 9)).drew.alloc (.cells #[.string s] 9)) (wr.heap.size+1) #[.string s] 9:=by have:=Blk.new (wr.alloc (.cells #[] 9)).drew #[.string s] 9;simpa using this
      go_simp;refine hK.out _ _ y (fun _=>?_);clear hK K;try simp only[pS]
      refine rd1 4 (fun K hK=>?_);refine cq (by rfl) _ _ _ (by rfl) wr.heap.size 9 i0 _ 1 16 underlying29 G B C D rfl (by decide) _ 0 [] (by rfl) (ownsRow.alloc (fk (eE wr 9 1)) _) none 0 0 [] (by rfl) (by simp;try omega) ((fun(F:World) (_:Below wr.heap.size wr F)=>(show b8 F F.heap.size none []from fun Q=>by simp at Q)) _ y) (by first |exact dw |simp) (by unfold maxLen;omega) (by omega) y.size ?_;intro v1 A m p;rw[Nat.zero_add,nil_append]at m;have f:Below wr.heap.size wr A:=y.grown p y.size (fun k hk=>by cases hk;simp);have I:=P.grown p (fun e=>by have:=Option.some.inj e;simp at this);refine hK.out _ _ f (fun _=>?_);clear hK K;try simp only[pS]
      refine rd1 7 (fun K hK=>?_);refine cq (by rfl) _ _ _ (by rfl) wr.heap.size 9 i0 _ 1 16 underlying29 G B C D rfl (by decide) _ 0 _ (by rfl) m (some ⟨wr.heap.size+1,0,none⟩) 1 1 [.string s] (by rfl) rfl (dE (xs:=[.string s]) I) (ef _) (by unfold maxLen;omega) (by omega) f.size ?_;intro v2 J d z;have c:Below wr.heap.size wr J:=f.grown z f.size (fun k hk=>(m.lt k hk).1);refine hK.out _ _ c (fun _=>?_);clear hK K;try simp only[pS]
      obtain⟨a2,c2,rfl, -, -⟩:=b8.ah d;refine rd1 11 (fun K hK=>?_);refine cq (by rfl) _ _ _ (by rfl) wr.heap.size 9 i0 _ 1 16 underlying29 G B C D rfl (by decide) _ (0+1) _ (by rfl) d none 0 0 [] (by rfl) (by simp;try omega) ((fun(F:World) (_:Below wr.heap.size wr F)=>(show b8 F F.heap.size none []from fun Q=>by simp at Q)) _ c) (by first |exact dw |simp) (by unfold maxLen;omega) (by omega) c.size ?_;intro v3 L r n;have o:Below wr.heap.size wr L:=c.grown n c.size (fun k hk=>(d.lt k hk).1);refine hK.out _ _ o (fun _=>?_);clear hK K;try simp only[pS]
      refine tk [12] ?_;refine tkt (v:=?_) ?_ ?_;rotate_left
      .intro w' E;obtain⟨⟩:=T.out w' E;go_simp<;>with_reducible rfl
      try simp only[pS]
      refine tkn ?_;refine wpAnyH_done (by kernel_rfl) ?_ _;have H:=bQ r o;clear r o n;go_wp2_with fail;all_goals (go_ret;exact⟨_,[s],rfl,by simpa using X.out,cP (by simpa [strs]using H.out.1) O.out.2.2.1,H.out.2⟩)
    .have x:Below wr.heap.size wr (wr.alloc (.cells #[.string s] 9)).drew:=((Below.refl _ wr).alloc bW _).trans (Go.below_drewN bX 1);go_simp;refine hK.out _ _ x (fun _=>?_);clear hK K;try simp only[pS]
     refine rd1 0 (fun K hK=>?_);have y:Below wr.heap.size wr ((wr.alloc (.cells #[.string s] 9)).drew.alloc (.cells #[] 9)):=x.alloc x.size _;have R:((wr.alloc (.cells #[.string s] 9)).drew.alloc (.cells #[] 9)).ownsRow wr.heap.size 9 1 (.slice (some ⟨wr.heap.size+1,0,none⟩) 0 0) 0 []:=by
      have:=cP (eE (wr.alloc (.cells #[.string s] 9)).drew 9 1) x.size;simpa using this
     have P:Blk ((wr.alloc (.cells #[.string s] 9)).drew.alloc (.cells #[] 9)) wr.heap.size #[.string s] 9:=(Blk.new wr #[.string s] 9).alloc _;go_simp;refine hK.out _ _ y (fun _=>?_);clear hK K;try simp only[pS]
     refine rd1 4 (fun K hK=>?_);refine cq (by rfl) _ _ _ (by rfl) wr.heap.size 9 i0 _ 1 16 underlying29 G B C D rfl (by decide) _ 0 [] (by rfl) R none 0 0 [] (by rfl) (by simp;try omega) ((fun(F:World) (_:Below wr.heap.size wr F)=>(show b8 F F.heap.size none []from fun Q=>by simp at Q)) _ y) (by first |exact dw |simp) (by unfold maxLen;omega) (by omega) y.size ?_;intro v1 A m p;rw[Nat.zero_add,nil_append]at m;have f:Below wr.heap.size wr A:=y.grown p y.size (fun k hk=>by cases hk;simp);have I:=P.grown p (fun e=>by have:=Option.some.inj e;simp at this);refine hK.out _ _ f (fun _=>?_);clear hK K;try simp only[pS]
     refine rd1 7 (fun K hK=>?_);refine cq (by rfl) _ _ _ (by rfl) wr.heap.size 9 i0 _ 1 16 underlying29 G B C D rfl (by decide) _ 0 _ (by rfl) m (some ⟨wr.heap.size,0,none⟩) 1 1 [.string s] (by rfl) rfl (dE (xs:=[.string s]) I) (ef _) (by unfold maxLen;omega) (by omega) f.size ?_;intro v2 J d z;have c:Below wr.heap.size wr J:=f.grown z f.size (fun k hk=>(m.lt k hk).1);refine hK.out _ _ c (fun _=>?_);clear hK K;try simp only[pS]
     obtain⟨a2,c2,rfl, -, -⟩:=b8.ah d;refine rd1 11 (fun K hK=>?_);refine cq (by rfl) _ _ _ (by rfl) wr.heap.size 9 i0 _ 1 16 underlying29 G B C D rfl (by decide) _ (0+1) _ (by rfl) d none 0 0 [] (by rfl) (by simp;try omega) ((fun(F:World) (_:Below wr.heap.size wr F)=>(show b8 F F.heap.size none []from fun Q=>by simp at Q)) _ c) (by first |exact dw |simp) (by unfold maxLen;omega) (by omega) c.size ?_;intro v3 L r n;have o:Below wr.heap.size wr L:=c.grown n c.size (fun k hk=>(d.lt k hk).1);refine hK.out _ _ o (fun _=>?_);clear hK K;try simp only[pS]
     refine tk [12] ?_;refine tkt (v:=?_) ?_ ?_;rotate_left
     .intro w' E;obtain⟨⟩:=T.out w' E;go_simp<;>with_reducible rfl
     try simp only[pS]
     refine tkn ?_;refine wpAnyH_done (by kernel_rfl) ?_ _;have H:=bQ r o;clear r o n;go_wp2_with fail;all_goals (go_ret;exact⟨_,[s],rfl,by simpa using X.out,cP (by simpa [strs]using H.out.1) O.out.2.2.1,H.out.2⟩)
   .cases e0
    have Z:=bP (fun(w':World) (V:Below wr.heap.size wr w')=>(O.out.2.2.2.below V bW).more V.size);clear au;go_upto_region 6 with (fail);refine wp_region_held_drew (S:=fun w'=>Below wr.heap.size wr w') (by kernel_rfl) (Go.below_drewN (Below.refl _ wr) 1) (fun ab=>?_);refine tk [1,2,3,5,8,9,10] ?_;repeat ((refine tkt (v:=?_) ?_ ?_;rotate_left;·intro w' E;obtain⟨⟩:=T.out w' E;go_simp<;>with_reducible rfl);try simp only[pS])
    refine tkn ?_;refine rd2 0 6 (fun K hK=>?_) (fun K hK=>?_)
    .have x:Below wr.heap.size wr (wr.alloc (.cells #[] 9)).drew:=((Below.refl _ wr).alloc bW _).trans (Go.below_drewN bX 1);go_simp;refine hK.out _ _ x (fun _=>?_);clear hK K;try simp only[pS]
     refine rd2 4 6 (fun K hK=>?_) (fun K hK=>?_)
     .refine cq (by rfl) _ _ _ (by rfl) wr.heap.size 9 i0 _ 1 16 underlying29 G B C D rfl (by decide) _ 0 [] (by rfl) (fk (eE wr 9 1)) (some ⟨g,0,none⟩) l.length U (strs l) (by rfl) (by simp[strs];try omega) (Z.out _ x) (by first |exact dw |simp) (by unfold maxLen;omega) (by omega) x.size ?_;intro v1 A m p;rw[Nat.zero_add,nil_append]at m;have f:Below wr.heap.size wr A:=x.grown p x.size (fun k hk=>by cases hk;simp);refine hK.out _ _ f (fun _=>?_);clear hK K;try simp only[pS]
      refine rd1 6 (fun K hK=>?_);have M:Below wr.heap.size wr (A.alloc (.cells #[.string s] 9)):=f.alloc f.size _;have N:=ownsRow.alloc m (.cells #[.string s] 9);have I:Blk (A.alloc (.cells #[.string s] 9)) A.heap.size #[.string s] 9:=Blk.new _ _ _;go_simp;refine hK.out _ _ M (fun _=>?_);clear hK K;try simp only[pS]
      refine rd1 7 (fun K hK=>?_);refine cq (by rfl) _ _ _ (by rfl) wr.heap.size 9 i0 _ 1 16 underlying29 G B C D rfl (by decide) _ l.length _ (by rfl) N (some ⟨A.heap.size,0,none⟩) 1 1 [.string s] (by rfl) rfl (dE (xs:=[.string s]) I) (ef _) (by unfold maxLen;omega) (by omega) M.size ?_;intro v2 J d z;have c:Below wr.heap.size wr J:=M.grown z M.size (fun k hk=>(N.lt k hk).1);refine hK.out _ _ c (fun _=>?_);clear hK K;try simp only[pS]
      obtain⟨a2,c2,rfl, -, -⟩:=b8.ah d;refine rd1 11 (fun K hK=>?_);refine cq (by rfl) _ _ _ (by rfl) wr.heap.size 9 i0 _ 1 16 underlying29 G B C D rfl (by decide) _ (l.length+1) _ (by rfl) d _ 0 _ [] (by rfl) (by simp;try omega) ((fun(F:World) (_:Below wr.heap.size wr F)=>(show b8 F F.heap.size _ []from fun Q=>by simp at Q)) _ c) (by first |exact dw |simp) (by unfold maxLen;omega) (by omega) c.size ?_;intro v3 L r n;have o:Below wr.heap.size wr L:=c.grown n c.size (fun k hk=>(d.lt k hk).1);refine hK.out _ _ o (fun _=>?_);clear hK K;try simp only[pS]
      refine tk [12] ?_;refine tkt (v:=?_) ?_ ?_;rotate_left
      .intro w' E;obtain⟨⟩:=T.out w' E;go_simp<;>with_reducible rfl
      try simp only[pS]
      refine tkn ?_;refine wpAnyH_done (by kernel_rfl) ?_ _;have H:=bQ r o;clear r o n;go_wp2_with fail;all_goals (go_ret;exact⟨_,l++[s],rfl,by simpa using X.out,cP (by simpa [strs]using H.out.1) O.out.2.2.1,H.out.2⟩)
     .have y:Below wr.heap.size wr ((wr.alloc (.cells #[] 9)).drew.alloc (.cells #[.string s] 9)):=x.alloc x.size _;have P:Blk ((wr.alloc (.cells #[] 9)).drew.alloc (.cells #[.string s] 9)) (wr.heap.size+1) #[.string s] 9:=by have:=Blk.new (wr.alloc (.cells #[] 9)).drew #[.string s] 9;simpa using this
      go_simp;refine hK.out _ _ y (fun _=>?_);clear hK K;try simp only[pS]
      refine rd1 4 (fun K hK=>?_);refine cq (by rfl) _ _ _ (by rfl) wr.heap.size 9 i0 _ 1 16 underlying29 G B C D rfl (by decide) _ 0 [] (by rfl) (ownsRow.alloc (fk (eE wr 9 1)) _) (some ⟨g,0,none⟩) l.length U (strs l) (by rfl) (by simp[strs];try omega) (Z.out _ y) (by first |exact dw |simp) (by unfold maxLen;omega) (by omega) y.size ?_;intro v1 A m p;rw[Nat.zero_add,nil_append]at m;have f:Below wr.heap.size wr A:=y.grown p y.size (fun k hk=>by cases hk;simp);have I:=P.grown p (fun e=>by have:=Option.some.inj e;simp at this);refine hK.out _ _ f (fun _=>?_);clear hK K;try simp only[pS]
      refine rd1 7 (fun K hK=>?_);refine cq (by rfl) _ _ _ (by rfl) wr.heap.size 9 i0 _ 1 16 underlying29 G B C D rfl (by decide) _ l.length _ (by rfl) m (some ⟨wr.heap.size+1,0,none⟩) 1 1 [.string s] (by rfl) rfl (dE (xs:=[.string s]) I) (ef _) (by unfold maxLen;omega) (by omega) f.size ?_;intro v2 J d z;have c:Below wr.heap.size wr J:=f.grown z f.size (fun k hk=>(m.lt k hk).1);refine hK.out _ _ c (fun _=>?_);clear hK K;try simp only[pS]
      obtain⟨a2,c2,rfl, -, -⟩:=b8.ah d;refine rd1 11 (fun K hK=>?_);refine cq (by rfl) _ _ _ (by rfl) wr.heap.size 9 i0 _ 1 16 underlying29 G B C D rfl (by decide) _ (l.length+1) _ (by rfl) d _ 0 _ [] (by rfl) (by simp;try omega) ((fun(F:World) (_:Below wr.heap.size wr F)=>(show b8 F F.heap.size _ []from fun Q=>by simp at Q)) _ c) (by first |exact dw |simp) (by unfold maxLen;omega) (by omega) c.size ?_;intro v3 L r n;have o:Below wr.heap.size wr L:=c.grown n c.size (fun k hk=>(d.lt k hk).1);refine hK.out _ _ o (fun _=>?_);clear hK K;try simp only[pS]
      refine tk [12] ?_;refine tkt (v:=?_) ?_ ?_;rotate_left
      .intro w' E;obtain⟨⟩:=T.out w' E;go_simp<;>with_reducible rfl
      try simp only[pS]
      refine tkn ?_;refine wpAnyH_done (by kernel_rfl) ?_ _;have H:=bQ r o;clear r o n;go_wp2_with fail;all_goals (go_ret;exact⟨_,l++[s],rfl,by simpa using X.out,cP (by simpa [strs]using H.out.1) O.out.2.2.1,H.out.2⟩)
    .have x:Below wr.heap.size wr (wr.alloc (.cells #[.string s] 9)).drew:=((Below.refl _ wr).alloc bW _).trans (Go.below_drewN bX 1);go_simp;refine hK.out _ _ x (fun _=>?_);clear hK K;try simp only[pS]
     refine rd1 0 (fun K hK=>?_);have y:Below wr.heap.size wr ((wr.alloc (.cells #[.string s] 9)).drew.alloc (.cells #[] 9)):=x.alloc x.size _;have R:((wr.alloc (.cells #[.string s] 9)).drew.alloc (.cells #[] 9)).ownsRow wr.heap.size 9 1 (.slice (some ⟨wr.heap.size+1,0,none⟩) 0 0) 0 []:=by
      have:=cP (eE (wr.alloc (.cells #[.string s] 9)).drew 9 1) x.size;simpa using this
     have P:Blk ((wr.alloc (.cells #[.string s] 9)).drew.alloc (.cells #[] 9)) wr.heap.size #[.string s] 9:=(Blk.new wr #[.string s] 9).alloc _;go_simp;refine hK.out _ _ y (fun _=>?_);clear hK K;try simp only[pS]
     refine rd1 4 (fun K hK=>?_);refine cq (by rfl) _ _ _ (by rfl) wr.heap.size 9 i0 _ 1 16 underlying29 G B C D rfl (by decide) _ 0 [] (by rfl) R (some ⟨g,0,none⟩) l.length U (strs l) (by rfl) (by simp[strs];try omega) (Z.out _ y) (by first |exact dw |simp) (by unfold maxLen;omega) (by omega) y.size ?_;intro v1 A m p;rw[Nat.zero_add,nil_append]at m;have f:Below wr.heap.size wr A:=y.grown p y.size (fun k hk=>by cases hk;simp);have I:=P.grown p (fun e=>by have:=Option.some.inj e;simp at this);refine hK.out _ _ f (fun _=>?_);clear hK K;try simp only[pS]
     refine rd1 7 (fun K hK=>?_);refine cq (by rfl) _ _ _ (by rfl) wr.heap.size 9 i0 _ 1 16 underlying29 G B C D rfl (by decide) _ l.length _ (by rfl) m (some ⟨wr.heap.size,0,none⟩) 1 1 [.string s] (by rfl) rfl (dE (xs:=[.string s]) I) (ef _) (by unfold maxLen;omega) (by omega) f.size ?_;intro v2 J d z;have c:Below wr.heap.size wr J:=f.grown z f.size (fun k hk=>(m.lt k hk).1);refine hK.out _ _ c (fun _=>?_);clear hK K;try simp only[pS]
     obtain⟨a2,c2,rfl, -, -⟩:=b8.ah d;refine rd1 11 (fun K hK=>?_);refine cq (by rfl) _ _ _ (by rfl) wr.heap.size 9 i0 _ 1 16 underlying29 G B C D rfl (by decide) _ (l.length+1) _ (by rfl) d _ 0 _ [] (by rfl) (by simp;try omega) ((fun(F:World) (_:Below wr.heap.size wr F)=>(show b8 F F.heap.size _ []from fun Q=>by simp at Q)) _ c) (by first |exact dw |simp) (by unfold maxLen;omega) (by omega) c.size ?_;intro v3 L r n;have o:Below wr.heap.size wr L:=c.grown n c.size (fun k hk=>(d.lt k hk).1);refine hK.out _ _ o (fun _=>?_);clear hK K;try simp only[pS]
     refine tk [12] ?_;refine tkt (v:=?_) ?_ ?_;rotate_left
     .intro w' E;obtain⟨⟩:=T.out w' E;go_simp<;>with_reducible rfl
     try simp only[pS]
     refine tkn ?_;refine wpAnyH_done (by kernel_rfl) ?_ _;have H:=bQ r o;clear r o n;go_wp2_with fail;all_goals (go_ret;exact⟨_,l++[s],rfl,by simpa using X.out,cP (by simpa [strs]using H.out.1) O.out.2.2.1,H.out.2⟩)
  obtain⟨Y,o',e9,aE,hc⟩:=O.out.2.2.2.strs (by omega);subst e9;obtain rfl:o'=0:=by
   rcases O.out.1.2 with ⟨e0,_⟩ |⟨g,an,cur,e0,_⟩
   .cases e0
   .cases e0;rfl
  obtain⟨t,ht⟩:∃t,l[k]=t:=⟨_,rfl⟩;have c1:=hc k ai;rw[ht,Nat.zero_add]at c1;have ag:=bP (show l[k]?=some t by rw[getElem?_eq_getElem ai,ht]);clear hc ht;by_cases h1:bl t<bl s
  .have d1:=nR.2 h1;have HE:=bP (show∀j u,j<k+1->l[j]?=some u->bl u<bl s from fun j u hj hu=>by
    rcases Nat.lt_succ_iff_lt_or_eq.1 hj with h |rfl
    .exact HI.out j u h hu
    .rw[ag.out]at hu;rw[<-Option.some.inj hu];exact h1)
   clear h1;go_wp2_with fail;exact⟨⟨k+1,by omega,by go_num,HE.out,trivial⟩,by simp[intOf];omega⟩
  have d1:=CI h1;have d2:=iJ (a:=t) (b:=s);by_cases he:t=s
  .rw[decide_eq_true he]at d2;have HE:=bP (nN.same O.out.2.1 (show s∈l from by rw[<-he];exact mem_of_getElem? ag.out));clear h1 he;go_wp2_with fail;go_ret;exact⟨_,l,rfl,HE.out,O.out.1,bX⟩
  rw[decide_eq_false he]at d2;have X:=bP (nN.there (i:=k) O.out.2.1 HI.out (fun u hu=>by
   rw[ag.out]at hu;obtain rfl:=Option.some.inj hu;exact⟨h1,he⟩))
  have Z:=bP (fun(w':World) (V:Below wr.heap.size wr w')=>(show b8 w' w'.heap.size (some ⟨Y,0,none⟩) (strs (l.take k))from by
   rw[Cm];exact((O.out.2.2.2.below V bW).more V.size).take k))
  have aA:l.length<=U:=by
   rcases O.out.1.2 with ⟨e0,_⟩ |⟨g,an,cur,e0,_,_,q,_⟩
   .cases e0
   .cases e0;exact q
  have aH:¬U=k:=by omega
  have aG:k<=U:=by omega
  have af:=bP (fun(w':World) (V:Below wr.heap.size wr w')=>(show b8 w' w'.heap.size (some ⟨Y,k,none⟩) (strs (l.drop k))from by
   have:=((O.out.2.2.2.below V bW).more V.size).drop k;rw[Nat.zero_add]at this;rw[Ck];exact this))
  have T:=bP (fun(w':World) (_:Below wr.heap.size wr w')=>True.intro);clear h1 he;go_upto_region 6 with (fail);refine wp_region_held_drew (S:=fun w'=>Below wr.heap.size wr w') (by kernel_rfl) (Go.below_drewN (Below.refl _ wr) 1) (fun ab=>?_);refine tk [1,2,3,5,8,9,10] ?_;repeat ((refine tkt (v:=?_) ?_ ?_;rotate_left;·intro w' E;obtain⟨⟩:=T.out w' E;go_simp<;>with_reducible rfl);try simp only[pS])
  refine tkn ?_;refine rd2 0 6 (fun K hK=>?_) (fun K hK=>?_)
  .have x:Below wr.heap.size wr (wr.alloc (.cells #[] 9)).drew:=((Below.refl _ wr).alloc bW _).trans (Go.below_drewN bX 1);go_simp;refine hK.out _ _ x (fun _=>?_);clear hK K;try simp only[pS]
   refine rd2 4 6 (fun K hK=>?_) (fun K hK=>?_)
   .refine cq (by rfl) _ _ _ (by rfl) wr.heap.size 9 i0 _ 1 16 underlying29 G B C D rfl (by decide) _ 0 [] (by rfl) (fk (eE wr 9 1)) (some ⟨Y,0,none⟩) k U (strs (l.take k)) (by rfl) (by simp[strs];try omega) (Z.out _ x) (by first |exact dw |simp) (by unfold maxLen;omega) (by omega) x.size ?_;intro v1 A m p;rw[Nat.zero_add,nil_append]at m;have f:Below wr.heap.size wr A:=x.grown p x.size (fun k hk=>by cases hk;simp);refine hK.out _ _ f (fun _=>?_);clear hK K;try simp only[pS]
    refine rd1 6 (fun K hK=>?_);have M:Below wr.heap.size wr (A.alloc (.cells #[.string s] 9)):=f.alloc f.size _;have N:=ownsRow.alloc m (.cells #[.string s] 9);have I:Blk (A.alloc (.cells #[.string s] 9)) A.heap.size #[.string s] 9:=Blk.new _ _ _;go_simp;refine hK.out _ _ M (fun _=>?_);clear hK K;try simp only[pS]
    refine rd1 7 (fun K hK=>?_);refine cq (by rfl) _ _ _ (by rfl) wr.heap.size 9 i0 _ 1 16 underlying29 G B C D rfl (by decide) _ k _ (by rfl) N (some ⟨A.heap.size,0,none⟩) 1 1 [.string s] (by rfl) rfl (dE (xs:=[.string s]) I) (ef _) (by unfold maxLen;omega) (by omega) M.size ?_;intro v2 J d z;have c:Below wr.heap.size wr J:=M.grown z M.size (fun k hk=>(N.lt k hk).1);refine hK.out _ _ c (fun _=>?_);clear hK K;try simp only[pS]
    obtain⟨a2,c2,rfl, -, -⟩:=b8.ah d;refine rd1 11 (fun K hK=>?_);refine cq (by rfl) _ _ _ (by rfl) wr.heap.size 9 i0 _ 1 16 underlying29 G B C D rfl (by decide) _ (k+1) _ (by rfl) d (some ⟨Y,k,none⟩) (l.length-k) (U-k) (strs (l.drop k)) (by rfl) (by simp[strs];try omega) (af.out _ c) (by first |exact dw |simp) (by unfold maxLen;omega) (by omega) c.size ?_;intro v3 L r n;have o:Below wr.heap.size wr L:=c.grown n c.size (fun k hk=>(d.lt k hk).1);refine hK.out _ _ o (fun _=>?_);clear hK K;try simp only[pS]
    refine tk [12] ?_;refine tkt (v:=?_) ?_ ?_;rotate_left
    .intro w' E;obtain⟨⟩:=T.out w' E;go_simp<;>with_reducible rfl
    try simp only[pS]
    refine tkn ?_;refine wpAnyH_done (by kernel_rfl) ?_ _;have H9:=bP (show(l.take k++[s]++l.drop k).length=k+1+(l.length-k)from by simp;omega);have H:=bQ r o;clear r o n;go_wp2_with fail;all_goals (go_ret;exact⟨_,l.take k++[s]++l.drop k,rfl,X.out,cP (by rw[H9.out];simpa [strs]using H.out.1) O.out.2.2.1,H.out.2⟩)
   .have y:Below wr.heap.size wr ((wr.alloc (.cells #[] 9)).drew.alloc (.cells #[.string s] 9)):=x.alloc x.size _;have P:Blk ((wr.alloc (.cells #[] 9)).drew.alloc (.cells #[.string s] 9)) (wr.heap.size+1) #[.string s] 9:=by have:=Blk.new (wr.alloc (.cells #[] 9)).drew #[.string s] 9;simpa using this
    go_simp;refine hK.out _ _ y (fun _=>?_);clear hK K;try simp only[pS]
    refine rd1 4 (fun K hK=>?_);refine cq (by rfl) _ _ _ (by rfl) wr.heap.size 9 i0 _ 1 16 underlying29 G B C D rfl (by decide) _ 0 [] (by rfl) (ownsRow.alloc (fk (eE wr 9 1)) _) (some ⟨Y,0,none⟩) k U (strs (l.take k)) (by rfl) (by simp[strs];try omega) (Z.out _ y) (by first |exact dw |simp) (by unfold maxLen;omega) (by omega) y.size ?_;intro v1 A m p;rw[Nat.zero_add,nil_append]at m;have f:Below wr.heap.size wr A:=y.grown p y.size (fun k hk=>by cases hk;simp);have I:=P.grown p (fun e=>by have:=Option.some.inj e;simp at this);refine hK.out _ _ f (fun _=>?_);clear hK K;try simp only[pS]
    refine rd1 7 (fun K hK=>?_);refine cq (by rfl) _ _ _ (by rfl) wr.heap.size 9 i0 _ 1 16 underlying29 G B C D rfl (by decide) _ k _ (by rfl) m (some ⟨wr.heap.size+1,0,none⟩) 1 1 [.string s] (by rfl) rfl (dE (xs:=[.string s]) I) (ef _) (by unfold maxLen;omega) (by omega) f.size ?_;intro v2 J d z;have c:Below wr.heap.size wr J:=f.grown z f.size (fun k hk=>(m.lt k hk).1);refine hK.out _ _ c (fun _=>?_);clear hK K;try simp only[pS]
    obtain⟨a2,c2,rfl, -, -⟩:=b8.ah d;refine rd1 11 (fun K hK=>?_);refine cq (by rfl) _ _ _ (by rfl) wr.heap.size 9 i0 _ 1 16 underlying29 G B C D rfl (by decide) _ (k+1) _ (by rfl) d (some ⟨Y,k,none⟩) (l.length-k) (U-k) (strs (l.drop k)) (by rfl) (by simp[strs];try omega) (af.out _ c) (by first |exact dw |simp) (by unfold maxLen;omega) (by omega) c.size ?_;intro v3 L r n;have o:Below wr.heap.size wr L:=c.grown n c.size (fun k hk=>(d.lt k hk).1);refine hK.out _ _ o (fun _=>?_);clear hK K;try simp only[pS]
    refine tk [12] ?_;refine tkt (v:=?_) ?_ ?_;rotate_left
    .intro w' E;obtain⟨⟩:=T.out w' E;go_simp<;>with_reducible rfl
    try simp only[pS]
    refine tkn ?_;refine wpAnyH_done (by kernel_rfl) ?_ _;have H9:=bP (show(l.take k++[s]++l.drop k).length=k+1+(l.length-k)from by simp;omega);have H:=bQ r o;clear r o n;go_wp2_with fail;all_goals (go_ret;exact⟨_,l.take k++[s]++l.drop k,rfl,X.out,cP (by rw[H9.out];simpa [strs]using H.out.1) O.out.2.2.1,H.out.2⟩)
  .have x:Below wr.heap.size wr (wr.alloc (.cells #[.string s] 9)).drew:=((Below.refl _ wr).alloc bW _).trans (Go.below_drewN bX 1);go_simp;refine hK.out _ _ x (fun _=>?_);clear hK K;try simp only[pS]
   refine rd1 0 (fun K hK=>?_);have y:Below wr.heap.size wr ((wr.alloc (.cells #[.string s] 9)).drew.alloc (.cells #[] 9)):=x.alloc x.size _;have R:((wr.alloc (.cells #[.string s] 9)).drew.alloc (.cells #[] 9)).ownsRow wr.heap.size 9 1 (.slice (some ⟨wr.heap.size+1,0,none⟩) 0 0) 0 []:=by
    have:=cP (eE (wr.alloc (.cells #[.string s] 9)).drew 9 1) x.size;simpa using this
   have P:Blk ((wr.alloc (.cells #[.string s] 9)).drew.alloc (.cells #[] 9)) wr.heap.size #[.string s] 9:=(Blk.new wr #[.string s] 9).alloc _;go_simp;refine hK.out _ _ y (fun _=>?_);clear hK K;try simp only[pS]
   refine rd1 4 (fun K hK=>?_);refine cq (by rfl) _ _ _ (by rfl) wr.heap.size 9 i0 _ 1 16 underlying29 G B C D rfl (by decide) _ 0 [] (by rfl) R (some ⟨Y,0,none⟩) k U (strs (l.take k)) (by rfl) (by simp[strs];try omega) (Z.out _ y) (by first |exact dw |simp) (by unfold maxLen;omega) (by omega) y.size ?_;intro v1 A m p;rw[Nat.zero_add,nil_append]at m;have f:Below wr.heap.size wr A:=y.grown p y.size (fun k hk=>by cases hk;simp);have I:=P.grown p (fun e=>by have:=Option.some.inj e;simp at this);refine hK.out _ _ f (fun _=>?_);clear hK K;try simp only[pS]
   refine rd1 7 (fun K hK=>?_);refine cq (by rfl) _ _ _ (by rfl) wr.heap.size 9 i0 _ 1 16 underlying29 G B C D rfl (by decide) _ k _ (by rfl) m (some ⟨wr.heap.size,0,none⟩) 1 1 [.string s] (by rfl) rfl (dE (xs:=[.string s]) I) (ef _) (by unfold maxLen;omega) (by omega) f.size ?_;intro v2 J d z;have c:Below wr.heap.size wr J:=f.grown z f.size (fun k hk=>(m.lt k hk).1);refine hK.out _ _ c (fun _=>?_);clear hK K;try simp only[pS]
   obtain⟨a2,c2,rfl, -, -⟩:=b8.ah d;refine rd1 11 (fun K hK=>?_);refine cq (by rfl) _ _ _ (by rfl) wr.heap.size 9 i0 _ 1 16 underlying29 G B C D rfl (by decide) _ (k+1) _ (by rfl) d (some ⟨Y,k,none⟩) (l.length-k) (U-k) (strs (l.drop k)) (by rfl) (by simp[strs];try omega) (af.out _ c) (by first |exact dw |simp) (by unfold maxLen;omega) (by omega) c.size ?_;intro v3 L r n;have o:Below wr.heap.size wr L:=c.grown n c.size (fun k hk=>(d.lt k hk).1);refine hK.out _ _ o (fun _=>?_);clear hK K;try simp only[pS]
   refine tk [12] ?_;refine tkt (v:=?_) ?_ ?_;rotate_left
   .intro w' E;obtain⟨⟩:=T.out w' E;go_simp<;>with_reducible rfl
   try simp only[pS]
   refine tkn ?_;refine wpAnyH_done (by kernel_rfl) ?_ _;have H9:=bP (show(l.take k++[s]++l.drop k).length=k+1+(l.length-k)from by simp;omega);have H:=bQ r o;clear r o n;go_wp2_with fail;all_goals (go_ret;exact⟨_,l.take k++[s]++l.drop k,rfl,X.out,cP (by rw[H9.out];simpa [strs]using H.out.1) O.out.2.2.1,H.out.2⟩)
end
section
open Go.RowKit Classical
theorem Bo:(prog.info? 4).map (fun i=>(i.zero,i.size,i.bytes))=some (some (.bool false),1,1):=by kernel_rfl
theorem yU (n u:Nat):¬Mk (replicate n false) u:=by
 unfold Mk;rw[getElem?_replicate];split<;>simp
theorem mP (n:Nat):madeCells #[Value.bool false] n=(gd (replicate n false)).toArray:=by
 apply Array.ext
 .simp[madeCells,gd]
 .intro i h1 a;simp[madeCells,mod_one,gd]
section
variable {w w' : World} {n0 bO : Nat} {st s0 : Int} {fl : List Int} {al : List Arc} {fv av v' : Value} {ob : Obj}
def RS (w:World)(n0 bO:Nat)(st s0:Int)(fl:List Int)(al:List Arc)(fv av:Value):Prop:=
 gY w n0 bO st s0 fl [] fv (.slice none 0 0)/\w.ownsRow n0 171 4 av al.length (flat al)/\n0<=bO
theorem RS.aN (h:RS w n0 bO st s0 fl al fv av){x:Arc}(c:w'.ownsRow n0 171 4 v' (al.length+1) (flat al++x.cells))(b:(w.alloc ob).grownBy w' av.ownBlock):
  RS w' n0 bO st s0 fl (al++[x]) fv v'/\Below n0 w w':=by
 obtain⟨h1,a,f⟩:=h;have g:=h1.blk.lt;have k1:=(h1.blk.alloc ob).grown b (fun e=>(h1.blk.alloc ob).own_ne (a.alloc ob) (by decide) e.symm);have k2:=dK (h1.fin.alloc ob) (a.alloc ob) (by decide) b;refine⟨⟨⟨k1,k2,ownsRow_nil _ _ _ _⟩,by rw[length_append,fR,wO];exact c,f⟩,?_⟩;exact(bX.alloc (by omega) ob).grown b (by simp;omega) (fun j d=>(a.lt j d).1)
theorem RS.ag (h:RS w n0 bO st s0 fl al fv av)(st':Int):RS (w.setCell ⟨bO,0,none⟩ (.int .i64 st')) n0 bO st' s0 fl al fv av/\Below n0 w (w.setCell ⟨bO,0,none⟩ (.int .i64 st')):=by
 obtain⟨h1,a,b⟩:=h;obtain⟨k1,k2⟩:=h1.ag b st';exact⟨⟨k1,cV a (p:=⟨bO,0,none⟩) (h1.blk.own_ne a (by decide)) _,b⟩,k2⟩
theorem RS.sorted (h:RS w n0 bO st s0 fl al fv av){S:List Arc}(a:Below w.heap.size w w')(c:w'.ownsRow w.heap.size 171 4 v' S.length (flat S)):
  Blk (w'.setCell ⟨bO,3,none⟩ v') bO #[.int .i64 st,.int .i64 s0,fv,v'] 98/\(w'.setCell ⟨bO,3,none⟩ v').ownsRow n0 3 1 fv fl.length (nums fl)/\
  (w'.setCell ⟨bO,3,none⟩ v').ownsRow w.heap.size 171 4 v' S.length (flat S)/\Below n0 w (w'.setCell ⟨bO,3,none⟩ v')/\Blk w' bO #[.int .i64 st,.int .i64 s0,fv,.slice none 0 0] 98:=by
 obtain⟨h1,e,d⟩:=h;have b:=h1.blk.lt;have k1:=h1.blk.below a b;have k2:=cJ h1.fin a;refine⟨by have:=k1.aj 3 v';simpa using this,cV k2 (p:=⟨bO,3,none⟩) (k1.own_ne k2 (by decide)) _,cV c (p:=⟨bO,3,none⟩) (k1.own_ne c (by decide)) _,?_,k1⟩;exact(a.mono (by omega)).setCell (p:=⟨bO,3,none⟩) d _
end
attribute [local go_sem] gB fU
def isFalse:Value->Bool
 | .bool false=>true
 |_=>false
def pC (w:World)(f:Nat):Nat:=match w.heap[f]? with
 |some (.cells cs _)=>cs.toList.countP isFalse
 |_=>0
theorem sk {w:World}{a:List Bool}{t:TypeId}(h:Blk w f (gd a).toArray t):pC w f=a.count false:=by
 unfold Blk at h;unfold pC;rw[h];show(gd a).countP isFalse=_;unfold gd List.count;rw[countP_map];congr 1;funext b;cases b<;>rfl
def oneOf:Value->Nat
 | .bool true=>1
 |_=>0
end
section
open Go Classical
def oU (M:cu)(u:Int):Prop:=∃s,q8 (Ed M) u s/\Way (Ed M) s s
theorem oU.next {M:cu}{u:Int}(h:oU M u):∃a∈M.arcs,a.frm=u/\a.inp=0/\oU M a.to:=by
 obtain⟨s,h1,b⟩:=h;have d:Way (Ed M) u s:=h1.elim (fun e=>by rw[e];exact b) id;obtain⟨c,⟨a,f,rfl⟩,g⟩:=qi d;obtain⟨q1,i,j⟩:=ec.1 f;exact⟨a,q1,i,j,s,g,b⟩
def nJ (M:cu)(n:Nat)(g:List Bool):Prop:=g.length=n/\∀u:Nat,Mk g u->¬oU M u
def iC (M:cu)(n:Nat)(g ld:List Bool)(k:Nat):Prop:=ld.length=n/\∀u:Nat,Mk ld u↔∃a∈M.arcs.take k,a.inp=0/\a.frm=u/\¬Mk g a.to.toNat
def iD (n:Nat)(g ld g':List Bool)(s:Nat)(more:Bool):Prop:=g'.length=n/\(∀u:Nat,Mk g' u↔Mk g u\/(u<s/\¬Mk ld u))/\(more=false->g'=g)/\(more=true->g'.count false<g.count false)
section
variable {M : cu} {n k s : Nat} {g ld g' : List Bool} {more : Bool}
theorem nJ.start:nJ M n (replicate n false):=⟨by simp,fun u h=>absurd h (yU n u)⟩
theorem iC.start:iC M n g (replicate n false) 0:=⟨by simp,fun u=>⟨fun h=>absurd h (yU n u),fun⟨_,h,_⟩=>by simp at h⟩⟩
theorem iQ {b:Arc}(hk:M.arcs[k]?=some a):b∈M.arcs.take (k+1)↔b∈M.arcs.take k\/b=a:=by
 rw[take_add_one,hk,mem_append];simp
theorem iC.hit (h:iC M n g ld k)(hk:M.arcs[k]?=some a)(d:a.inp=0)(e:a.frm=f)(j:f<n)(i:¬Mk g a.to.toNat):iC M n g (ld.set f true) (k+1):=by
 refine⟨by rw[length_set];exact h.1,fun u=>?_⟩;rw[BF (by rw[h.1];exact j),h.2 u];constructor
 .rintro(rfl |⟨b,c,q⟩)
  .exact⟨a,(iQ hk).2 (.inr rfl),d,e,i⟩
  .exact⟨b,(iQ hk).2 (.inl c),q⟩
 .rintro⟨b,c,q1,l,m⟩;rcases (iQ hk).1 c with c |rfl
  .exact .inr ⟨b,c,q1,l,m⟩
  .exact .inl (by omega)
theorem iC.aE (h:iC M n g ld k)(hk:M.arcs[k]?=some a)(e:¬(a.inp=0/\¬Mk g a.to.toNat)):iC M n g ld (k+1):=by
 refine⟨h.1,fun u=>?_⟩;rw[h.2 u];constructor
 .rintro⟨b,c,q⟩;exact⟨b,(iQ hk).2 (.inl c),q⟩
 .rintro⟨b,c,q1,f,d⟩;rcases (iQ hk).1 c with c |rfl
  .exact⟨b,c,q1,f,d⟩
  .exact absurd ⟨q1,d⟩ e
theorem iD.start (h:g.length=n):iD n g ld g 0 false:=⟨h,fun u=>⟨.inl,fun h=>h.elim id (fun q=>absurd q.1 (not_lt_zero _))⟩,fun _=>rfl,fun h=>by cases h⟩
theorem iD.hit (h:iD n g ld g' s more)(a:s<n)(f:¬Mk g' s)(i:¬Mk ld s):iD n g ld (g'.set s true) (s+1) true:=by
 have d:g'[s]?=some false:=by
  rw[getElem?_eq_getElem (by rw[h.1];exact a)];cases e:g'[s]'(by rw[h.1];exact a)with
  |false=>rfl
  |true=>exact absurd (show Mk g' s by unfold Mk;rw[getElem?_eq_getElem (by rw[h.1];exact a),e]) f
 refine⟨by rw[length_set];exact h.1,fun u=>?_,(fun e=>by cases e),fun _=>?_⟩
 .rw[BF (by rw[h.1];exact a),h.2.1 u];constructor
  .rintro(rfl |q |⟨q1,c⟩)
   .exact .inr ⟨by omega,i⟩
   .exact .inl q
   .exact .inr ⟨by omega,c⟩
  .rintro(q |⟨q1,c⟩)
   .exact .inr (.inl q)
   .by_cases e:u=s
    .exact .inl e
    .exact .inr (.inr ⟨by omega,c⟩)
 .have b:=zE d;cases more with
  |false=>rw[h.2.2.1 rfl]at b⊢;exact b
  |true=>exact Nat.lt_trans b (h.2.2.2 rfl)
theorem iD.aE (h:iD n g ld g' s more)(a:Mk g' s\/Mk ld s):iD n g ld g' (s+1) more:=by
 refine⟨h.1,fun u=>?_,h.2.2⟩;rw[h.2.1 u];constructor
 .rintro(q |⟨q1,b⟩)
  .exact .inl q
  .exact .inr ⟨by omega,b⟩
 .rintro(q |⟨q1,b⟩)
  .exact .inl q
  .by_cases e:u=s
   .subst e;rcases a with a |a
    .exact(h.2.1 u).1 a
    .exact absurd a b
   .exact .inr ⟨by omega,b⟩
theorem iC.arc (h:iC M n g ld M.arcs.length)(c:a∈M.arcs)(b:a.inp=0)(hu:a.frm=u)(e:¬Mk ld u):Mk g a.to.toNat:=Classical.byContradiction fun d=>
 e ((h.2 u).2 ⟨a,by rw[take_length];exact c,b,hu,d⟩)
theorem iD.gone (h:iD n g ld g' n more)(e:nJ M n g)(k:iC M n g ld M.arcs.length)(f:∀a∈M.arcs,0<=a.to):nJ M n g':=⟨h.1,fun u hu d=>by
 rcases (h.2.1 u).1 hu with q |⟨q1,l⟩
 .exact e.2 u q d
 .obtain⟨a,c,h1,i,j⟩:=d.next;have b:=e.2 _ (k.arc c i h1 l);rw[toNat_of_nonneg (f a c)]at b;exact b j⟩
theorem uq {R:Int->Int->Prop}{S:Nat->Prop}(n:Nat)(d:∀u,S u->u<n/\∃v,S v/\R u v){u0:Nat}(b:S u0):∀k:Nat,(∃s,Way R s s)\/∃(u:Nat) (l:List Nat),l.length=k/\(u::l).Nodup/\(∀x∈u::l,S x)/\∀x∈l,Way R x u
 |0=> .inr ⟨u0,[],rfl,by simp,by simpa using b,by simp⟩
 |k+1=>by
  rcases uq n d b k with h |⟨u,l,h1,f,c,g⟩
  .exact .inl h
  .obtain⟨_,v,i,e⟩:=d u (c u (mem_cons_self ..));have hw:∀x∈u::l,Way R x v:=fun x a=>by
    rcases mem_cons.1 a with rfl |a
    .exact .one e
    .exact(g x a).more e
   by_cases hm:v∈u::l
   .exact .inl ⟨v,hw v hm⟩
   .exact .inr ⟨v,u::l,by simp[h1],nodup_cons.2 ⟨hm,f⟩,fun x a=>by
     rcases mem_cons.1 a with rfl |a
     .exact i
     .exact c x a,hw⟩
theorem xH (a:∀u:Nat,u<n->¬Mk g u->∃v:Nat,v<n/\¬Mk g v/\Ed M u v){u0:Nat}(d:u0<n)(h1:¬Mk g u0):eJ M:=by
 rcases uq (R:=Ed M) (S:=fun u=>u<n/\¬Mk g u) n (fun u hu=>⟨hu.1,by
  obtain⟨v,q1,b,c⟩:=a u hu.1 hu.2;exact⟨v,⟨q1,b⟩,c⟩⟩) ⟨d,h1⟩ n with h |⟨u,l,q1,b,c,_⟩
 .exact h
 .have:=gz (m:=range n) b (fun x e=>mem_range.2 (c x e).1);rw[length_range,length_cons]at this;omega
theorem iD.left (h:iD n g ld g' n false)(e:iC M n g ld M.arcs.length)(c:∀a∈M.arcs,0<=a.to/\a.to<n):∀u:Nat,u<n->¬Mk g u->∃v:Nat,v<n/\¬Mk g v/\Ed M u v:=fun u hu d=>by
 have h1:Mk ld u:=Classical.byContradiction fun q=>d (by rw[<-h.2.2.1 rfl];exact(h.2.1 u).2 (.inr ⟨hu,q⟩));obtain⟨a,b,q1,f,i⟩:=(e.2 u).1 h1;rw[take_length]at b;have:=c a b;exact⟨a.to.toNat,by omega,i,a,ec.2 ⟨b,f,q1⟩,by omega⟩
def qp (M:cu)(n:Nat)(g:List Bool):Prop:=nJ M n g/\∀u:Nat,u<n->¬Mk g u->∃v:Nat,v<n/\¬Mk g v/\Ed M u v
theorem qp.yes (h:qp M n g)(hu:u<n)(a:¬Mk g u):eJ M:=xH h.2 hu a
theorem qp.no (h:qp M n g)(i:M.ag=n)(c:∀a∈M.arcs,0<=a.frm/\a.frm<M.ag)(b:∀u:Nat,u<n->Mk g u):¬eJ M:=fun⟨s,f⟩=>by
 have d:oU M s:=⟨s,.inl rfl,f⟩;obtain⟨a,e,h1,_,_⟩:=d.next;have:=c a e;have hm:=h.1.2 _ (b s.toNat (by omega));rw[show((s.toNat:Nat):Int)=s by omega]at hm;exact hm d
end
end
section
open Go.RowKit Classical
attribute [local go_sem] gB fU
theorem mg {w:World}{g:List Bool}{t:TypeId}(h:Blk w f (gd g).toArray t)(hu:u<g.length):∃c,g[u]?=some c/\w.cell? ⟨f,u,none⟩=some (.bool c):=by
 have a:=h.cell u;refine⟨g[u],getElem?_eq_getElem hu,?_⟩;rw[a];simp[gd,hu]
theorem qv {g:List Bool}(h:g[u]?=some true):Mk g u:=h
theorem og {g:List Bool}(h:g[u]?=some false):¬Mk g u:=fun k=>by
 unfold Mk at k;rw[h]at k;cases k
set_option maxRecDepth 100000
set_option maxHeartbeats 4000000
theorem yx (M:cu)(v:Value)(N:cN M)(w:World)(h:dx w w.heap.size v M):
  Calls prog 108 #[v] w fun e w'=>e= .returned (.bool (decide (eJ M)))/\Below w.heap.size w w':=by
 obtain⟨fa,fc,aa,ac,rfl,bc,a7, -,B⟩:=h;obtain⟨n,hn⟩:∃n:Nat,M.ag=n:=⟨M.ag.toNat,by have:=N.one;omega⟩;have bd:n<=4000:=by have:=N.most;omega
 have aX:=N.an;have V:∀a∈M.arcs,∃p q:Nat,a.frm=p/\a.to=q/\p<n/\q<n:=fun a h=>by
  obtain⟨q1,q2,_⟩:=N.arcs a h;rw[hn]at q1 q2;obtain⟨h1,h2⟩:=q1;obtain⟨h3,h4⟩:=q2;exact⟨a.frm.toNat,a.to.toNat,by omega,by omega,by omega,by omega⟩
 obtain⟨l,G⟩:∃l:World,l=w.alloc (.cells #[.int .i64 M.ag,.int .i64 M.start,.slice fa M.final.length fc,.slice aa M.arcs.length ac] 98):=⟨_,rfl⟩;have J:Below w.heap.size w l:=by rw[G];exact bX.alloc bW _
 have F:Blk l w.heap.size #[.int .i64 M.ag,.int .i64 M.start,.slice fa M.final.length fc,.slice aa M.arcs.length ac] 98:=by rw[G];exact Blk.new _ _ _
 have Z:=F.lt;have O:=bP (fun(wr:World) (H:Below l.heap.size l wr)=>(show wr.cell? ⟨w.heap.size,0,none⟩=some (.int .i64 n)/\wr.cell? ⟨w.heap.size,3,none⟩=some (.slice aa M.arcs.length ac)from
  ⟨by rw[<-hn];exact(F.below H Z).cell 0,(F.below H Z).cell 3⟩))
 have HA:=bP (fun(wr:World) (H:Below l.heap.size l wr) (k:Nat) (hk:k<M.arcs.length)=>by
  obtain⟨b,off,e,x,A⟩:=B.arcs (by omega);have hx:=J.trans (H.mono J.size);exact(⟨b,off,e,(hx.cell (p:=⟨b,off+k*4,none⟩) x).trans (A k hk).1,(hx.cell (p:=⟨b,off+k*4+1,none⟩) x).trans (A k hk).2.1,(hx.cell (p:=⟨b,off+k*4+3,none⟩) x).trans (A k hk).2.2.2⟩:
   ∃b off,aa=some ⟨b,off,none⟩/\wr.cell? ⟨b,off+k*4,none⟩=some (.int .i64 M.arcs[k].frm)/\wr.cell? ⟨b,off+k*4+1,none⟩=some (.int .i64 M.arcs[k].inp)/\wr.cell? ⟨b,off+k*4+3,none⟩=some (.int .i64 M.arcs[k].to)))
 have y:=bQ G J;obtain⟨m0, -⟩:=O.out l bX;have az:=bP V;have Hn:=bP hn;have Hv:=bP N;obtain⟨ib,aQ,aC,aD,aF⟩:=info_parts Bo;have aR:=fun W=>uE (P:=prog) 244 4 ib (.bool false) underlying244 aQ aC .i64 .i64 n n bW (by rw[aF];omega) (by omega) W;rw[aD]at aR;clear G J F B hn V N;go_enter func108,ntmps108;go_upto_region 1 with (fail);rw[<-y.out.1];go_upto_region 2 with (fail);clear m0;generalize R:(l.alloc _)=W1;obtain⟨f,ar⟩:∃f,l.heap.size=f:=⟨_,rfl⟩;have k1:Blk W1 f (gd (replicate n false)).toArray 4:=by
  rw[<-R,<-ar,mP];exact Blk.new _ _ _
 have ah:Below l.heap.size l W1:=by rw[<-R];exact bX.alloc bW _
 rw[ar];have be:w.heap.size<=f:=by have:=y.out.2.size;omega
 have H1:=bQ k1 ah;clear R k1 ah;go_wp2_with fail;go_loopw [4] (fun m r=>∃(b:Bool) (g:List Bool),m= .bool b/\nJ M n g/\Blk r f (gd g).toArray 4/\(b=false->qp M n g)/\Below l.heap.size l r) (fun m r=>pC r f+oneOf m);case atStart=>exact⟨true,replicate n false,rfl,nJ.start,H1.out.1,(fun h=>by cases h),H1.out.2⟩
 case round=>
  obtain⟨b,g,rfl,hg,ak,I,x⟩:=hrel;have o:=bT hg ak I x;have aP:g.length=n:=hg.1;clear hg ak I x;cases b with
  |false=>
   go_wp2_with fail;go_loopw [8] (fun i r=>∃k:Nat,k<=n/\i= .int .i64 k/\(∀u:Nat,u<k->Mk g u)/\r=wr) (fun i _=>n-(intOf i).toNat);case atStart=>exact⟨0,zero_le _,rfl,fun u h=>by omega,rfl⟩
   case round=>
    obtain⟨k,hk,rfl,U,rfl⟩:=hrel;have j:=bP U;clear U;obtain⟨m0, -⟩:=O.out _ o.out.2.2.2;by_cases Y:k<n;case neg=>
     obtain rfl:k=n:=by omega
     have HB:=bP (show¬eJ M from(o.out.2.2.1 (by trivial)).no Hn.out (fun a B=>(Hv.out.arcs a B).1) (fun u hu=>j.out u hu));go_wp2_with fail;go_ret;exact⟨cj HB.out,y.out.2.trans (o.out.2.2.2.mono y.out.2.size)⟩
    obtain⟨c,A,tc⟩:=mg o.out.2.1 (u:=k) (by omega);have Hc:=bP A;clear A;cases c with
    |true=>
     go_wp2_with fail;refine⟨⟨k+1,by omega,by go_num,fun u hu=>?_,trivial⟩,by simp[intOf];omega⟩;rcases Nat.lt_succ_iff_lt_or_eq.1 hu with q |rfl
     .exact j.out u q
     .exact qv Hc.out
    |false=>
     have HB:=bP (show eJ M from(o.out.2.2.1 (by trivial)).yes Y (og Hc.out));go_wp2_with fail;go_ret;exact⟨dP HB.out,y.out.2.trans (o.out.2.2.2.mono y.out.2.size)⟩
  |true=>
   obtain⟨E,rfl⟩:∃E:World,E=wr:=⟨_,rfl⟩;have au:=sk o.out.2.1;have aI:=bP au;obtain⟨m0, -⟩:=O.out _ o.out.2.2.2;clear au;go_upto_region 6 with (fail);generalize S:(E.alloc _)=W4;obtain⟨d,aq⟩:∃d,E.heap.size=d:=⟨_,rfl⟩;have kd:Blk W4 d (gd (replicate n false)).toArray 4:=by
    rw[<-S,<-aq,mP];exact Blk.new _ _ _
   have Q:Below E.heap.size E W4:=by rw[<-S];exact bX.alloc bW _
   rw[aq];have ba:f<d:=by have:=o.out.2.1.lt;omega
   have H4:=bS kd (o.out.2.1.below Q o.out.2.1.lt) (o.out.2.2.2.trans (Q.mono o.out.2.2.2.size));have a8:l.heap.size<=d:=by omega
   clear S kd Q m0;go_wp2_with fail;go_loopw [6] (fun i r=>∃(k:Nat) (ld:List Bool),k<=M.arcs.length/\i= .int .i64 k/\iC M n g ld k/\Blk r d (gd ld).toArray 4/\Blk r f (gd g).toArray 4/\Below l.heap.size l r) (fun i _=>M.arcs.length-(intOf i).toNat);case atStart=>exact⟨0,_,zero_le _,rfl,iC.start,H4.out.1,H4.out.2.1,H4.out.2.2⟩
   case round=>
    obtain⟨k,ld,hk,rfl,aw,C,D,x⟩:=hrel;have j:=bT aw C D x;clear aw C D x;obtain⟨m0,m3⟩:=O.out wr j.out.2.2.2;by_cases X:k<M.arcs.length;case neg=>
     obtain rfl:k=M.arcs.length:=by omega
     obtain⟨W5,rfl⟩:∃W5:World,W5=wr:=⟨_,rfl⟩;have L:=j;clear j;go_wp2_with fail;clear m0 m3;go_loopw [4,7] (fun m i r=>∃(k:Nat) (b:Bool) (g':List Bool),k<=n/\i= .int .i64 k/\m= .bool b/\iD n g ld g' k b/\Blk r f (gd g').toArray 4/\Blk r d (gd ld).toArray 4/\Below l.heap.size l r) (fun _ i _=>n-(intOf i).toNat);case atStart=>exact⟨0,false,g,zero_le _,rfl,rfl,iD.start aP,L.out.2.2.1,L.out.2.1,L.out.2.2.2⟩
     case round=>
      obtain⟨k,b,g',hk,rfl,rfl,ab,D,C,x⟩:=hrel;have j:=bT ab D C x;have aY:g'.length=n:=ab.1;clear ab D C x;obtain⟨m0, -⟩:=O.out wr j.out.2.2.2;by_cases Y:k<n;case neg=>
       obtain rfl:k=n:=by omega
       have t:=bP (j.out.1.gone o.out.1 L.out.1 (fun a B=>(Hv.out.arcs a B).2.1.1));have HF:=bP (show b=false->qp M k g' from fun e=>by
        subst e;have e9:=j.out.1.2.2.1 rfl;rw[e9];exact⟨o.out.1,j.out.1.left L.out.1 (fun a B=>by have:=(Hv.out.arcs a B).2.1;rw[Hn.out]at this;exact this)⟩)
       have aK:=bP (show pC wr f+oneOf (.bool b)<pC E f+oneOf (.bool true)from by
        rw[aI.out,sk j.out.2.1];cases b with
        |false=>rw[j.out.1.2.2.1 rfl];simp[oneOf]
        |true=>have:=j.out.1.2.2.2 rfl;simp[oneOf];omega)
       go_wp2_with fail;exact⟨⟨b,g',rfl,t.out,j.out.2.1,HF.out,j.out.2.2.2⟩,aK.out⟩
      obtain⟨c1,al,bf⟩:=mg j.out.2.1 (u:=k) (by omega);obtain⟨c2,ao,bg⟩:=mg j.out.2.2.1 (u:=k) (by have:=L.out.1.1;omega);have tf:=j.out.2.1.frozen k;have s:=bQ al ao;clear al ao;cases c1 with
      |true=>
       have t:=bP (j.out.1.aE (.inl (qv s.out.1)));go_wp2_with fail;exact⟨⟨k+1,b,g',by omega,by go_num,rfl,t.out,j.out.2.1,j.out.2.2.1,j.out.2.2.2⟩,by simp[intOf];omega⟩
      |false=>
       cases c2 with
       |true=>
        have t:=bP (j.out.1.aE (.inr (qv s.out.2)));go_wp2_with fail;exact⟨⟨k+1,b,g',by omega,by go_num,rfl,t.out,j.out.2.1,j.out.2.2.1,j.out.2.2.2⟩,by simp[intOf];omega⟩
       |false=>
        have t:=bP (j.out.1.hit Y (og s.out.1) (og s.out.2));go_wp2_with fail;exact⟨⟨k+1,true,g'.set k true,by omega,by go_num,rfl,t.out,by rw[<-tV];exact j.out.2.1.aj k _,j.out.2.2.1.far (p:=⟨f,k,none⟩) (by show d≠f;omega) _,j.out.2.2.2.setCell (p:=⟨f,k,none⟩) (by show l.heap.size<=f;omega) _⟩,by simp[intOf];omega⟩
    obtain⟨bb,off,rfl,x0,x1,x3⟩:=HA.out wr j.out.2.2.2 k X;obtain⟨p,q,e1,e2,hp,hq⟩:=az.out _ (getElem_mem X);obtain⟨a,T⟩:∃a,M.arcs[k]=a:=⟨_,rfl⟩;have ai:M.arcs[k]?=some a:=by rw[getElem?_eq_getElem X,T]
    rw[T]at x0 x1 x3 e1 e2;rw[e1]at x0;rw[e2]at x3;obtain⟨c,A,tc⟩:=mg j.out.2.2.1 (u:=q) (by omega);have tf:=j.out.2.1.frozen p;obtain⟨c9, -,bh⟩:=mg j.out.2.1 (u:=p) (by have:=j.out.1.1;omega);have s:=bT ai A e1 e2;clear ai A T e1 e2;by_cases z:a.inp=0;case neg=>
     have d1:(a.inp==0)=false:=by simpa using z
     have t:=bP (j.out.1.aE s.out.1 (fun h=>z h.1));clear z;go_wp2_with fail;exact⟨⟨k+1,ld,by omega,by go_num,t.out,j.out.2.1,j.out.2.2.1,j.out.2.2.2⟩,by simp[intOf];omega⟩
    have aJ:=bP z;have d1:(a.inp==0)=true:=by simpa using z
    clear z;cases c with
    |true=>
     have t:=bP (j.out.1.aE s.out.1 (fun h=>h.2 (by rw[s.out.2.2.2,toNat_natCast];exact qv s.out.2.1)));go_wp2_with fail;exact⟨⟨k+1,ld,by omega,by go_num,t.out,j.out.2.1,j.out.2.2.1,j.out.2.2.2⟩,by simp[intOf];omega⟩
    |false=>
     have t:=bP (j.out.1.hit s.out.1 aJ.out s.out.2.2.1 hp (by rw[s.out.2.2.2,toNat_natCast];exact og s.out.2.1));go_wp2_with fail;exact⟨⟨k+1,ld.set p true,by omega,by go_num,t.out,by rw[<-tV];exact j.out.2.1.aj p _,j.out.2.2.1.far (p:=⟨d,p,none⟩) (by show f≠d;omega) _,j.out.2.2.2.setCell (p:=⟨d,p,none⟩) (by show l.heap.size<=d;omega) _⟩,by simp[intOf];omega⟩
end
section
open Go.RowKit Go.Shelf Classical
def fb (w:World)(base n:Nat)(M:List Spl):Prop:=∀x∈M,x.ws.length=n/\0<=x.cost/\x.cost<=1000*n/\w.ownsRow base 9 1 (.slice x.at_ x.ws.length x.cap) x.ws.length (strs x.ws)
structure gr (w1:World)(n:Nat)(v:Value)(M:List Spl)(wr:World):Prop where
 below:Below w1.heap.size w1 wr
 own:wr.ownsRow w1.heap.size 48 2 v M.length (M.flatMap Spl.cells)
 each:fb wr w1.heap.size n M
theorem fb.below {w w':World}{base n:Nat}{M:List Spl}(h:fb w base n M)(d:Below w.heap.size w w'):fb w' base n M:=fun x e=>by
 obtain⟨h1,a,b,c⟩:=h x e;exact⟨h1,a,b,cJ c d⟩
theorem fb.base {w:World}{base base' n:Nat}{M:List Spl}(h:fb w base n M)(d:base'<=base):fb w base' n M:=fun x e=>by
 obtain⟨h1,a,b,c⟩:=h x e;exact⟨h1,a,b,cP c d⟩
theorem fb.ok {w:World}{base n:Nat}{M:List Spl}(h:fb w base n M)(g:n<=12):∀x∈M,x.ok w w.heap.size:=fun x f=>by
 obtain⟨h1,_,_,e⟩:=h x f;obtain⟨a,c,b, -,d⟩:=b8.ah e;cases b
 exact⟨by unfold maxLen;omega,d⟩
theorem fb.bN {w:World}{base n:Nat}{v:Value}{M:List Spl}(h:fb w base n M)(d:n<=12)(b:w.ownsRow base 48 2 v M.length (M.flatMap Spl.cells)):∃(a:Option Addr) (c:Nat),v= .slice a M.length c/\fG w w.heap.size a M:=by
 obtain⟨a,c,rfl, -,e⟩:=b8.ah b;exact⟨a,c,rfl,e,h.ok d⟩
theorem q7.len {L M:List Spl}{s:Spl}(h:q7 L s M):M.length<=L.length+1:=by
 rcases h with ⟨i,x,_,_,_,rfl⟩ |⟨_,rfl⟩
 .rw[length_set];omega
 .rw[length_append];simp
theorem q7.key {L M:List Spl}{s:Spl}(h:q7 L s M):oY (L.map Spl.key) s.ws s.cost (M.map Spl.key):=by
 rcases h with ⟨i,x,h1,a,_,rfl⟩ |⟨h1,rfl⟩
 .refine .inl ⟨i,x.cost,by rw[getElem?_map,h1,<-a];rfl,?_⟩;rw[map_set,<-a];rfl
 .refine .inr ⟨fun d b=>?_,by rw[map_append];rfl⟩;obtain⟨y,c,e⟩:=mem_map.1 b;exact h1 y c (Prod.mk.inj e).1
theorem q7.each {w:World}{base n:Nat}{L M:List Spl}{s:Spl}(h:q7 L s M)(b:fb w base n L)(c:fb w base n [s]):fb w base n M:=by
 rcases h with ⟨i,x,h1,e,_,rfl⟩ |⟨h1,rfl⟩
 .intro y a;rcases mem_or_eq_of_mem_set a with a |rfl
  .exact b y a
  .obtain⟨q1,l,m,d⟩:=b x (mem_of_getElem? h1);obtain⟨f,g,j,k⟩:=c s (mem_singleton_self _);exact⟨q1,by show 0<=min x.cost s.cost;omega,by show min x.cost s.cost<=_;omega,d⟩
 .intro y a;rcases mem_append.1 a with a |a
  .exact b y a
  .exact c y a
theorem gr.call {a wr b:World}{n:Nat}{v:Value}{M:List Spl}(h:gr a n v M wr)(t:n<=12)(u:M.length<=1000)(c:Below wr.heap.size wr b)(s:Spl)(f:fb b a.heap.size n [s]):
  Calls prog 39 #[v,s.v] b fun e w'=>∃v' M',e= .returned v'/\gr a n v' M' w'/\oY (M.map Spl.key) s.ws s.cost (M'.map Spl.key)/\M'.length<=M.length+1:=by
 have d:=cJ h.own c;have l:=h.each.below c;refine(Dq a.heap.size v M s b u (Nat.le_trans h.below.size c.size) d (l.ok t) (f.ok t s (mem_singleton_self _))).mono ?_;rintro e w' ⟨v',M',rfl,m,p,j⟩;have r:∀k,some k=v.ownBlock->a.heap.size<=k:=fun k hk=>(d.lt k hk.symm).1;have keep:∀{x:Spl},b.ownsRow a.heap.size 9 1 (.slice x.at_ x.ws.length x.cap) x.ws.length (strs x.ws)->w'.ownsRow a.heap.size 9 1 (.slice x.at_ x.ws.length x.cap) x.ws.length (strs x.ws):=fun i=>
  fj i j (fun g o f=>by
   rcases own_ne i d (by decide)with q |q
   .rw[q]at o;cases o
   .exact q (o.trans f))
 have up:∀{X:List Spl},fb b a.heap.size n X->fb w' a.heap.size n X:=fun w x i=>by
  obtain⟨q1,y,z,A⟩:=w x i;exact⟨q1,y,z,keep A⟩
 exact⟨v',M',rfl,⟨(h.below.trans (c.mono h.below.size)).trans (j.below r (Nat.le_trans h.below.size c.size)),p,m.each (up l) (up f)⟩,m.key,m.len⟩
def kG (L X:List Spl)(i:Nat):Prop:=X.Perm L/\∀(a b:Nat) (x y:Spl),a<b->b<i->X[a]?=some x->X[b]?=some y->¬ltX y.key x.key
def lE (L X:List Spl)(i k:Nat):Prop:=X.Perm L/\k<=i/\∀(a b:Nat) (x y:Spl),a<b->b<=i->b≠k->X[a]?=some x->X[b]?=some y->¬ltX y.key x.key
theorem kG.start (L:List Spl):kG L L 0:=⟨List.Perm.refl _,fun _ _ _ _ _ h=>by omega⟩
theorem kG.go {L X:List Spl}(h:kG L X i):lE L X i i:=⟨h.1,bW,fun a b x y h1 c d=>h.2 a b x y h1 (by omega)⟩
theorem D9 {a b c:List ByteArray×Int}(h:¬ltX c b)(k:¬ltX b a):¬ltX c a:=fun q=>by
 rcases qu b a with r |r |r
 .exact k r
 .subst r;exact h q
 .exact h (lf q r)
theorem lE.top {L X:List Spl}(h:lE L X i 0):kG L X (i+1):=⟨h.1,fun a b x y h1 c=>h.2.2 a b x y h1 (by omega) (by omega)⟩
theorem lE.stop {L X:List Spl}{k:Nat}(h:lE L X i (k+1)){x0 x1:Spl}(j:X[k+ 1]?=some x0)(h1:X[k]?=some x1)(f:¬ltX x0.key x1.key):kG L X (i+1):=⟨h.1,fun a b x y q1 l c d=>by
 by_cases e:b=k+1
 .subst e;obtain rfl:x0=y:=by rw[j]at d;exact Option.some.inj d
  by_cases g:a=k
  .subst g;obtain rfl:x1=x:=by rw[h1]at c;exact Option.some.inj c
   exact f
  .exact D9 f (h.2.2 a k x x1 (by omega) (by have:=h.2.1;omega) (by omega) c h1)
 .exact h.2.2 a b x y q1 (by omega) e c d⟩
theorem swap_perm {X:List Spl}{k:Nat}{x0 x1:Spl}(d:X[k+ 1]?=some x0)(h1:X[k]?=some x1):((X.set (k+1) x1).set k x0).Perm X:=by
 obtain⟨q1,c⟩:=List.getElem?_eq_some_iff.1 h1;obtain⟨g,e0⟩:=List.getElem?_eq_some_iff.1 d;have b:X=X.take k++x1::x0::X.drop (k+2):=by
  rw[<-e0,<-c,<-drop_eq_getElem_cons g,<-drop_eq_getElem_cons q1,take_append_drop]
 obtain⟨A,a⟩:∃A,X.take k=A:=⟨_,rfl⟩;obtain⟨B,e⟩:∃B,X.drop (k+2)=B:=⟨_,rfl⟩;have f:A.length=k:=by rw[<-a,length_take];omega
 rw[a,e]at b;subst f;rw[b,set_append_right _ _ (by omega),set_append_right _ _ (by omega)];simp only[Nat.add_sub_cancel_left,Nat.sub_self,set_cons_succ,set_cons_zero];exact Perm.append_left A (Perm.swap _ _ _)
theorem lE.step {L X:List Spl}{k:Nat}(h:lE L X i (k+1)){x0 x1:Spl}(l:X[k+ 1]?=some x0)(h1:X[k]?=some x1)(n:ltX x0.key x1.key):lE L ((X.set (k+1) x1).set k x0) i k:=by
 obtain⟨q1,u⟩:=List.getElem?_eq_some_iff.1 h1;obtain⟨q,e0⟩:=List.getElem?_eq_some_iff.1 l;have hk:k+1<=i:=h.2.1;have g0:((X.set (k+1) x1).set k x0)[k]?=some x0:=by rw[getElem?_set_self (by rw[length_set];exact q1)]
 have g1:((X.set (k+1) x1).set k x0)[k+ 1]?=some x1:=by rw[getElem?_set_ne (by omega),getElem?_set_self q]
 have go:∀j,j≠k->j≠k+1->((X.set (k+1) x1).set k x0)[j]?=X[j]?:=fun j o p=>by rw[getElem?_set_ne (Ne.symm o),getElem?_set_ne (Ne.symm p)]
 refine⟨(swap_perm l h1).trans h.1,by omega,fun a b x y s m t c d=>?_⟩;by_cases f:b=k+1
 .subst f;rw[g1]at d;obtain rfl:=Option.some.inj d;by_cases e:a=k
  .subst e;rw[g0]at c;obtain rfl:=Option.some.inj c;exact fun r=>lJ _ (lf r n)
  .rw[go a e (by omega)]at c;exact h.2.2 a k x x1 (by omega) (by omega) (by omega) c h1
 .rw[go b t f]at d;by_cases e:a=k
  .subst e;rw[g0]at c;obtain rfl:=Option.some.inj c;exact h.2.2 (a+1) b x0 y (by omega) m f l d
  .by_cases g:a=k+1
   .subst g;rw[g1]at c;obtain rfl:=Option.some.inj c;exact h.2.2 k b x1 y (by omega) m f h1 d
   .rw[go a e g]at c;exact h.2.2 a b x y s m f c d
theorem kG.done {L X:List Spl}(h:kG L X i)(f:L.length<=i):(X.map Spl.key).Pairwise (fun a b=>¬ltX b a):=by
 rw[pairwise_map];refine pairwise_iff_getElem.2 (fun a b d e c=>h.2 a b _ _ c (by have:=h.1.length_eq;omega) (getElem?_eq_getElem d) (getElem?_eq_getElem e))
theorem tW:∀{L:List Spl} {i:Nat} (x:Spl),i<L.length->((L.flatMap Spl.cells).set (i*2) (.slice x.at_ x.ws.length x.cap)).set (i*2+1) (.int .i64 x.cost)=(L.set i x).flatMap Spl.cells
 |[],i,x,h=>by simp at h
 |y::L,0,x,h=>rfl
 |y::L,i+1,x,h=>by
  have b:=tW (L:=L) (i:=i) x (by simpa using h);have a:y.cells.length=2:=rfl;rw[set_cons_succ,flatMap_cons,flatMap_cons,<-b,set_append_right _ _ (by omega),set_append_right _ _ (by omega),a];congr 2
  .congr 1;omega
  .omega
end
section
open Go Classical
def iG (l:List Sht)(w:ByteArray)(K:List (List ByteArray×Int))(k j:Nat):List ByteArray->Int->Prop:=fun u e=>
 jP l w (K.take k) u e\/∃ts m,K[k]?=some (ts,m)/\((u=ts++[w]/\e=m)\/∃s∈l.take j,s.short=w/\u=ts++[s.full]/\e=m+s.cost)
theorem Aq {l:List Sht}{w:ByteArray}{K:List (List ByteArray×Int)}:fh (jP l w (K.take 0)) []:=fh.start.congr (fun u e=>⟨fun h=>h.elim,fun⟨_,_,_,_,h,_⟩=>by rw[take_zero]at h;cases h⟩)
section
variable {l : List Sht} {w : ByteArray} {K M M' : List (List ByteArray × Int)} {k j : Nat} {ts : List ByteArray} {m : Int} {s : Sht}
theorem B7 (h:fh (jP l w (K.take k)) M)(hk:K[k]?=some (ts,m))(hp:oY M (ts++[w]) m M'):fh (iG l w K k 0) M':=(h.put hp).congr (fun u e=>by
 constructor
 .rintro(h |⟨rfl,rfl⟩)
  .exact .inl h
  .exact .inr ⟨ts,_,hk,.inl ⟨rfl,rfl⟩⟩
 .rintro(h |⟨c,d,h1,a⟩)
  .exact .inl h
  .rw[hk]at h1;obtain⟨rfl,rfl⟩:=Prod.mk.inj (Option.some.inj h1);rcases a with a |⟨s,b,_⟩
   .exact .inr a
   .rw[take_zero]at b;cases b)
theorem iR {s t:Sht}(a:l[j]?=some s):t∈l.take (j+1)↔t∈l.take j\/t=s:=by
 rw[take_add_one,a,mem_append];simp
theorem B6 (h:fh (iG l w K k j) M)(hk:K[k]?=some (ts,m))(g:l[j]?=some s)(i:s.short=w)(hp:oY M (ts++[s.full]) (m+s.cost) M'):fh (iG l w K k (j+1)) M':=(h.put hp).congr (fun u e=>by
 constructor
 .rintro((h |⟨a,f,h1,b⟩) |⟨rfl,rfl⟩)
  .exact .inl h
  .refine .inr ⟨a,f,h1,b.imp id ?_⟩;rintro⟨t,c,d⟩;exact⟨t,(iR g).2 (.inl c),d⟩
  .exact .inr ⟨ts,m,hk,.inr ⟨s,(iR g).2 (.inr rfl),i,rfl,rfl⟩⟩
 .rintro(h |⟨a,f,h1,b⟩)
  .exact .inl (.inl h)
  .rcases b with b |⟨t,c,d⟩
   .exact .inl (.inr ⟨a,f,h1,.inl b⟩)
   .rcases (iR g).1 c with c |rfl
    .exact .inl (.inr ⟨a,f,h1,.inr ⟨t,c,d⟩⟩)
    .rw[hk]at h1;obtain⟨rfl,rfl⟩:=Prod.mk.inj (Option.some.inj h1);exact .inr d.2)
theorem Ap (h:fh (iG l w K k j) M)(g:l[j]?=some s)(i:s.short≠w):fh (iG l w K k (j+1)) M:=h.congr (fun u e=>by
 constructor
 .rintro(h |⟨b,f,h1,d⟩)
  .exact .inl h
  .refine .inr ⟨b,f,h1,d.imp id ?_⟩;rintro⟨t,a,c⟩;exact⟨t,(iR g).2 (.inl a),c⟩
 .rintro(h |⟨b,f,h1,d⟩)
  .exact .inl h
  .refine .inr ⟨b,f,h1,d.imp id ?_⟩;rintro⟨t,a,c⟩;rcases (iR g).1 a with a |rfl
   .exact⟨t,a,c⟩
   .exact absurd c.1 i)
theorem B5 (h:fh (iG l w K k j) M)(n:l.length<=j)(hk:K[k]?=some (ts,m)):fh (jP l w (K.take (k+1))) M:=h.congr (fun u e=>by
 have f:∀x,x∈K.take (k+1)↔x∈K.take k\/x=(ts,m):=fun x=>by
  rw[take_add_one,hk,mem_append];simp
 rw[iG,take_of_length_le n];constructor
 .rintro(⟨a,c,t,d,h1,b⟩ |⟨a,c,h1,b⟩)
  .exact⟨a,c,t,d,(f _).2 (.inl h1),b⟩
  .rw[hk]at h1;obtain⟨rfl,rfl⟩:=Prod.mk.inj (Option.some.inj h1);rcases b with ⟨rfl,rfl⟩ |⟨s,i,g,rfl,rfl⟩
   .exact⟨ts,e,w,0,(f _).2 (.inr rfl),.inl ⟨rfl,rfl⟩,rfl,by omega⟩
   .exact⟨ts,m,s.full,s.cost,(f _).2 (.inr rfl),.inr ⟨s,i,g,rfl,rfl⟩,rfl,rfl⟩
 .rintro⟨a,c,t,d,h1,b,rfl,rfl⟩;rcases (f _).1 h1 with h1 |h1
  .exact .inl ⟨a,c,t,d,h1,b,rfl,rfl⟩
  .obtain⟨rfl,rfl⟩:=Prod.mk.inj h1;refine .inr ⟨a,c,hk,?_⟩;rcases b with ⟨rfl,rfl⟩ |⟨s,i,g,rfl,rfl⟩
   .exact .inl ⟨rfl,by omega⟩
   .exact .inr ⟨s,i,g,rfl,rfl⟩)
theorem um:∀K:List (List ByteArray×Int),(mR l w K).length=K.length*(chs l w).length
 |[]=>by simp[mR]
 |x::K=>by
  have a:=um K;unfold mR at a⊢;rw[flatMap_cons,length_append,a,length_map,length_cons,Nat.add_mul];omega
theorem Df {V:List ByteArray}(hK:K.Perm (ep (dN l V) [] 0))(e:fh (jP l w (K.take k)) M):M.length<=cW (dN l (V++[w])):=by
 have h1:(M.map (·.1)).length<=((mR l w K).map (·.1)).length:=gz e.nodup (fun t i=>by
  obtain⟨⟨o,c⟩,j,rfl⟩:=mem_map.1 i;obtain⟨⟨ts,m,t,d,q1,n,rfl,rfl⟩,a⟩:=(e.mem _ _).1 j;exact mem_map.2 ⟨(ts++[t],m+d),uj.2 ⟨ts,m,t,d,mem_of_mem_take q1,((jX l w).mem t d).2 ⟨n,fun b f=>by
   have:=a (m+b) ⟨ts,m,t,b,q1,f,rfl,rfl⟩;omega⟩,rfl,rfl⟩,rfl⟩)
 rw[length_map,length_map,um,hK.length_eq,jq]at h1;rw[show dN l (V++[w])=dN l V++[chs l w]from kH V [w],iU];have g:cW [chs l w]=(chs l w).length:=by simp[cW]
 rw[g];exact h1
end
end
section
open Go.RowKit Go.Shelf Classical
theorem yL:∀{a b:List ByteArray} {k:Nat} {x y:ByteArray},(∀j,j<k->a[j]?=b[j]?)->a[k]?=some x->b[k]?=some y->x≠y->(cmpL a b<0↔gi x y<0)
 |[],_,k,x,y,_,h,_,_=>by simp at h
 |_::_,[],k,x,y,_,_,h,_=>by simp at h
 |p::a,q::b,0,x,y,_,h,f,c=>by
  obtain rfl:p=x:=by simpa using h
  obtain rfl:q=y:=by simpa using f
  rw[kT];constructor
  .rintro(h1 |⟨h1,_⟩)
   .exact h1
   .exact absurd h1 c
  .exact .inl
 |p::a,q::b,k+1,x,y,d,h,f,c=>by
  have e:p=q:=by have:=d 0 (by omega);simpa using this
  rw[kT];have g:=yL (a:=a) (b:=b) (k:=k) (fun j i=>by have:=d (j+1) (by omega);simpa using this) (by simpa using h) (by simpa using f) c;constructor
  .rintro(h1 |⟨_,h1⟩)
   .rw[e,pt]at h1;omega
   .exact g.1 h1
  .intro h1;exact .inr ⟨e,g.2 h1⟩
theorem BC {α:Type}{a b:List α}(d:a.length=b.length)(h:∀j,j<a.length->a[j]?=b[j]?):a=b:=by
 refine ext_getElem? fun j=>?_;by_cases c:j<a.length
 .exact h j c
 .rw[getElem?_eq_none (by omega),getElem?_eq_none (by omega)]
theorem AU {a b:ByteArray}:(a.toList==b.toList)=decide (a=b):=iJ
set_option maxRecDepth 100000
set_option maxHeartbeats 4000000
theorem BX (x y:Spl)(w:World)(hx:x.ok w w.heap.size)(hy:y.ok w w.heap.size)(hlen:x.ws.length=y.ws.length):
  Calls prog 40 #[x.v,y.v] w fun e w'=>e= .returned (.bool (decide (ltX x.key y.key)))/\Below w.heap.size w w':=by
 obtain⟨I,D,xs,f⟩:=x;obtain⟨J,E,g,r⟩:=y;obtain⟨Y,m⟩:=hx;obtain⟨Z,n⟩:=hy;dsimp only at hlen Y Z m n;unfold Spl.v Spl.key;dsimp only;unfold maxLen at Y Z;have G:=bP hlen;clear hlen;go_enter func40,ntmps40;go_upto_region 1 with (fail);generalize B:((w.alloc _).alloc _)=l;have C:Below w.heap.size w l:=by rw[<-B];exact(bX.alloc bW _).alloc (by simp) _
 have R:Box l w.heap.size [.slice I xs.length D,.int .i64 f]:=by rw[<-B];exact(Box.new _ _ _).alloc (by simp) _
 have S:Box l (w.heap.size+1) [.slice J g.length E,.int .i64 r]:=by
  rw[<-B];have:=(Box.new (w.alloc (.cells #[.slice I xs.length D,.int .i64 f] 48)) [.slice J g.length E,.int .i64 r] 48);simp at this;exact this
 have HK:=bP (fun(q:Nat)=>(show((l.drewN q).cell? ⟨w.heap.size,0,none⟩=some (.slice I xs.length D)/\(l.drewN q).cell? ⟨w.heap.size,1,none⟩=some (.int .i64 f))/\((l.drewN q).cell? ⟨w.heap.size+1,0,none⟩=some (.slice J g.length E)/\(l.drewN q).cell? ⟨w.heap.size+1,1,none⟩=some (.int .i64 r))/\b8 (l.drewN q) w.heap.size I (strs xs)/\b8 (l.drewN q) w.heap.size J (strs g)from
  ⟨R.c2,S.c2,(m.below C bW).drewN q,(n.below C bW).drewN q⟩))
 have F:=bP C;clear B C R S m n;obtain⟨⟨m0,m1⟩,⟨n0,A⟩, -, -⟩:=HK.out 0;have m0:l.cell? ⟨w.heap.size,0,none⟩=some (.slice I xs.length D):=m0;have m1:l.cell? ⟨w.heap.size,1,none⟩=some (.int .i64 f):=m1;have n0:l.cell? ⟨w.heap.size+1,0,none⟩=some (.slice J g.length E):=n0;have A:l.cell? ⟨w.heap.size+1,1,none⟩=some (.int .i64 r):=A;by_cases hk:f=r;case neg=>
  have d1:(f != r)=true:=by simpa using hk
  by_cases c:f<r
  .have o:=bP (show ltX (xs,f) (g,r)from .inl c);have d2:decide (f<r)=true:=decide_eq_true c;clear hk c;go_wp2_with fail;go_ret;exact⟨dP o.out,F.out⟩
  .have o:=bP (show¬ltX (xs,f) (g,r)from fun h=>by
    rcases h with h |⟨h,_⟩
    .exact c h
    .exact hk h)
   have d2:decide (f<r)=false:=decide_eq_false c;clear hk c;go_wp2_with fail;go_ret;exact⟨cj o.out,F.out⟩
 subst hk;have d1:(f != f)=false:=by simp
 go_wp2_with fail;clear m0 m1 n0 A;go_loopw [5] (fun i wr=>∃k:Nat,k<=xs.length/\i= .int .i64 k/\(∀j,j<k->xs[j]?=g[j]?)/\∃q,wr=l.drewN q) (fun i _=>xs.length-(intOf i).toNat);case atStart=>exact⟨0,zero_le _,rfl,fun j h=>by omega,0,rfl⟩
 case round=>
  obtain⟨k,hk,rfl,Q,q,H⟩:=hrel;have z:=bQ Q H;obtain⟨⟨m0,m1⟩,⟨n0,A⟩,m,n⟩:=HK.out q;rw[<-H]at m0 m1 n0 A m n;clear Q H;by_cases V:k<xs.length
  .have X:k<g.length:=by have:=G.out;omega
   obtain⟨M,O,rfl, -,T⟩:=m.strs (by omega);obtain⟨N,P,rfl, -,U⟩:=n.strs (by omega);have c1:=T k V;have c2:=U k X;obtain⟨s,hs⟩:∃s,xs[k]=s:=⟨_,rfl⟩;obtain⟨t,ht⟩:∃t,g[k]=t:=⟨_,rfl⟩;rw[hs]at c1;rw[ht]at c2;have L:=bQ (show xs[k]?=some s by rw[getElem?_eq_getElem V,hs]) (show g[k]?=some t by rw[getElem?_eq_getElem X,ht]);have d2:=AU (a:=s) (b:=t);clear T U hs ht;by_cases he:s=t
   .rw[decide_eq_true he]at d2;have o:=bP (show∀j,j<k+1->xs[j]?=g[j]? from fun j hj=>by
     rcases Nat.lt_succ_iff_lt_or_eq.1 hj with h |rfl
     .exact z.out.1 j h
     .rw[L.out.1,L.out.2,he])
    clear he m n;go_wp2_with fail;go_quiet (fail);go_wp2_with fail;exact⟨⟨k+1,by omega,by go_num,o.out,_,by rw[z.out.2,drewN_drewN]⟩,by simp[intOf];omega⟩
   .rw[decide_eq_false he]at d2;have u:=yL z.out.1 L.out.1 L.out.2 he;by_cases c:gi s t<0
    .have o:=bP (show ltX (xs,f) (g,f)from .inr ⟨rfl,u.2 c⟩);have d3:Op.bytesLess s.toList t.toList=true:=nR.2 (j9.1 c);clear he m n u c;go_wp2_with fail;go_quiet (fail);go_upto_region 7 with (fail);generalize d:(wr.drewN _)=p;have Hq:=bP (show∃q,p=l.drewN q from⟨_,by rw[<-d,z.out.2,drewN_drewN]⟩);have e0:p.cell? ⟨w.heap.size,0,none⟩=some (.slice (some ⟨M,O,none⟩) xs.length D):=by rw[<-d];exact m0
     have e1:p.cell? ⟨w.heap.size+1,0,none⟩=some (.slice (some ⟨N,P,none⟩) g.length E):=by rw[<-d];exact n0
     have e2:p.cell? ⟨M,O+k,none⟩=some (.string s):=by rw[<-d];exact c1
     have e3:p.cell? ⟨N,P+k,none⟩=some (.string t):=by rw[<-d];exact c2
     clear d m0 n0 c1 c2 m1 A;go_quiet (fail);go_wp2_with fail;go_ret;exact⟨dP o.out,by obtain⟨q3,h3⟩:=Hq.out;rw[h3,drewN_drewN];exact Go.below_drewN F.out _⟩
    .have o:=bP (show¬ltX (xs,f) (g,f)from fun h=>by
      rcases h with h |⟨_,h⟩
      .exact absurd h (by simp)
      .exact c (u.1 h))
     have d3:Op.bytesLess s.toList t.toList=false:=by
      cases H:Op.bytesLess s.toList t.toList with
      |false=>rfl
      |true=>exact absurd (j9.2 (nR.1 H)) c
     clear he m n u c;go_wp2_with fail;go_quiet (fail);go_upto_region 7 with (fail);generalize d:(wr.drewN _)=p;have Hq:=bP (show∃q,p=l.drewN q from⟨_,by rw[<-d,z.out.2,drewN_drewN]⟩);have e0:p.cell? ⟨w.heap.size,0,none⟩=some (.slice (some ⟨M,O,none⟩) xs.length D):=by rw[<-d];exact m0
     have e1:p.cell? ⟨w.heap.size+1,0,none⟩=some (.slice (some ⟨N,P,none⟩) g.length E):=by rw[<-d];exact n0
     have e2:p.cell? ⟨M,O+k,none⟩=some (.string s):=by rw[<-d];exact c1
     have e3:p.cell? ⟨N,P+k,none⟩=some (.string t):=by rw[<-d];exact c2
     clear d m0 n0 c1 c2 m1 A;go_quiet (fail);go_wp2_with fail;go_ret;exact⟨cj o.out,by obtain⟨q3,h3⟩:=Hq.out;rw[h3,drewN_drewN];exact Go.below_drewN F.out _⟩
  .obtain rfl:k=xs.length:=by omega
   have o:=bP (show¬ltX (xs,f) (g,f)from fun h=>by
    have e:=BC G.out (fun j hj=>z.out.1 j hj);subst e;rcases h with h |⟨_,h⟩
    .exact absurd h (by simp)
    .rw[cmpL_eq.2 rfl]at h;omega)
   clear m n;go_wp2_with fail;go_ret;exact⟨cj o.out,by rw[z.out.2];exact Go.below_drewN F.out _⟩
end
end Go.Proofs.YtmhdgddjeadjjaaGreatDoor
