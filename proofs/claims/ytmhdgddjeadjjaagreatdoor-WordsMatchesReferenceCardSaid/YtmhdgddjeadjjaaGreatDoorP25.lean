/- C2 -/
import Derived.Test.YtmhdgddjeadjjaaGreatDoorP19
namespace Go.Proofs.YtmhdgddjeadjjaaGreatDoor
open _root_.List Go.Lib _root_.Nat Go.World _root_.Int Go.Proofs.Tryz
variable {b':Nat}{w:World}
section
open Go.RowKit Classical
theorem Blk.ay {b:Nat}{cs:Array Value}{t:TypeId}{Ok:Value->Prop}{l:List (Value×Value)}(h:Blk w b cs t)(c:ch w b' Ok l):b≠b':=by
 obtain⟨es,clock,a,_⟩:=c;intro e;subst e;rw[show w.heap[b]?=_ from h]at a;cases a
theorem j2 {base:Nat}{e:TypeId}{size n:Nat}{v:Value}{xs:List Value}(h:w.ownsRow base e size v n xs){Ok:Value->Prop}{l:List (Value×Value)}(b:ch w b' Ok l):v.ownBlock≠some b':=by
 obtain⟨es,clock,a,_⟩:=b;rcases h.2 with ⟨rfl,_⟩ |⟨g,cap,cur,rfl,_,c,_⟩
 .simp[Value.ownBlock]
 .intro he;have:g=b':=by simpa [Value.ownBlock]using he
  subst this;rw[c]at a;cases a
theorem Blk.aG {b:Nat}{cs a:Array Value}{t d:TypeId}(h:Blk w b cs t)(f:Blk w b' a d)(c:t≠d):b≠b':=by
 intro e;subst e;have:=(show w.heap[b]?=_ from h).symm.trans f;injection this with this;injection this with _ this;exact c this
structure ll (w:World)(mb cb ab base:Nat)(A:cr)(la sa:Option Addr)(lc sc:Nat)(lv av:Value)(RL:List db)(leads:List Nat)(bs:List Nat):Prop where
 ak:qY w mb A la sa lc sc cb lv av ab
 lv:w.ownsRow base 3 1 lv leads.length (ed leads)
 av:w.ownsRow base 212 1 av bs.length (bs.map fun b:Nat=>Value.map (some b))
 len:leads.length=RL.length
 aP:bs.length=RL.length
 bE:∀(k:Nat) b x,bs[k]?=some b->RL[k]?=some x->∃ks:List Int,cy w b jO (ks.map iA)/\∀z:Int,z∈ks↔z∈(cB A.bls x.nxt).letters
 apart:∀b∈bs,b≠ab
theorem ll.chg {w':World}{p i f base:Nat}{A:cr}{o q:Option Addr}{lc r:Nat}{lv av:Value}{m:List db}{leads bs:List Nat}{t:Array Value}{arcs:List Value}{S:Nat->Prop}
  (h:ll w p i f base A o q lc r lv av m leads bs)(a:Blk w i t 205)(d:cy w f ev arcs)(l:Chg S w w')(j:∀k,S k->k=i\/k=f\/w.heap.size<=k):ll w' p i f base A o q lc r lv av m leads bs:=by
 have z:=a.lt;have y:=ch.lt d;refine⟨Blk.chg h.ak l (fun s=>?_),fj h.lv l (fun g c s=>?_),fj h.av l (fun g c s=>?_),h.len,h.aP,fun k b x n v=>?_,h.apart⟩
 .rcases j _ s with e |e |e
  .exact Blk.aG h.ak a (by decide) e
  .exact Blk.ay h.ak d e
  .have:=Blk.lt h.ak;omega
 .rcases j _ s with e |e |e
  .exact a.own_ne h.lv (by decide) (by rw[c,e])
  .exact j2 h.lv d (by rw[c,e])
  .have:=(h.lv.lt g c).2;omega
 .rcases j _ s with e |e |e
  .exact a.own_ne h.av (by decide) (by rw[c,e])
  .exact j2 h.av d (by rw[c,e])
  .have:=(h.av.lt g c).2;omega
 .obtain⟨ks,h1,u⟩:=h.bE k b x n v;refine⟨ks,ch.chg h1 l (fun s=>?_),u⟩;rcases j _ s with e |e |e
  .exact Blk.ay a h1 e.symm
  .exact h.apart b (mem_of_getElem? n) e
  .have:=ch.lt h1;omega
theorem vL {l:List Arc}{x:Arc}:dT x∈l.map dT↔x∈l:=by
 rw[mem_map];exact⟨fun⟨y,a,e⟩=>vK e▸a,fun h=>⟨x,h,rfl⟩⟩
noncomputable def zo (l:List Arc)(x:Arc):List Arc:=if x∈l then l else l++[x]
theorem rH {l:List Arc}{x y:Arc}:y∈zo l x↔y∈l\/y=x:=by
 unfold zo;split
 .rename_i h;exact⟨.inl,fun a=>a.elim id (fun e=>e▸h)⟩
 .simp
theorem re (l:List Arc)(x:Arc):jQ (l.map dT) (dT x)=(zo l x).map dT:=by
 unfold jQ zo;by_cases h:x∈l
 .rw[if_pos (vL.2 h),if_pos h]
 .rw[if_neg (fun a=>h (vL.1 a)),if_neg h,map_append];rfl
def ig (c k:Nat):List Nat:=(range k).map fun j=>if j=0 then 0 else c+j-1
theorem gb (c k:Nat):(ig c k).length=k:=by simp[ig]
theorem AD (c k:Nat)(hk:1<=k):ig c (k+1)=ig c k++[c+k-1]:=by
 unfold ig;rw[range_succ,map_append];simp;omega
theorem tK (c n lead k:Nat)(hk:k<=n)(h1:1<=k):(ed (ig c n++[lead]))[k]?=some (.int .i64 (if k=n then (lead:Int) else (c:Int)+(k:Int) -1)):=by
 rcases Nat.lt_or_ge k n with h |h
 .rw[if_neg (by omega),fT _ k (c+k-1)]
  .congr 2;omega
  .rw[getElem?_append_left (by rw[gb];exact h),ig,getElem?_map,getElem?_range h];simp;omega
 .obtain rfl:k=n:=by omega
  rw[if_pos rfl,fT _ k lead];rw[getElem?_append_right (by rw[gb];exact bW),gb,Nat.sub_self];rfl
theorem xf {x:db}{base lead:Nat}{st:List Nat}{y:Arc}:y∈gG x base lead st↔(∃s:Nat,s∈st/\y=eI x base lead 0 (s:Int))\/∃j:Nat,j+1<x.n/\y=eI x base lead (j+1) ((base:Int)+(j:Int)):=by
 unfold gG;rw[mem_append,mem_map,mem_map];constructor
 .rintro(⟨s,a,e⟩ |⟨j,b,e⟩)
  .exact .inl ⟨s,a,e.symm⟩
  .exact .inr ⟨j,by have:=mem_range.1 b;omega,e.symm⟩
 .rintro(⟨s,a,e⟩ |⟨j,b,e⟩)
  .exact .inl ⟨s,a,e.symm⟩
  .exact .inr ⟨j,mem_range.2 (by omega),e.symm⟩
theorem yt {g n c r:Nat}(h:(Value.slice (some ⟨g,0,none⟩) n c).ownBlock=some r):g=r:=by simpa [Value.ownBlock]using h
theorem vO (s:ByteArray)(w:World)(a:s.size<=maxLen):
  Calls prog 205 #[.string s,.int .i64 0] w fun e w'=>e= .returned (.int .i64 (dv (bl s) 0))/\w'=w:=tp s 0 w a
def jM (w:World)(b a:Nat)(k:Nat):Prop:=k=b\/k=a\/w.heap.size<=k
def DJ (w:World)(d b:Nat)(A:cr)(f:List db)(leads:List Nat)(x:db)(c lead:Nat)(arcs:List Arc)(e:Ending)(w':World):Prop:=
 e= .returned (.tuple #[])/\(∃a:List Arc,cy w' b ev (a.map dT)/\∀y,y∈a↔y∈arcs\/y∈gG x c lead (0::1::di A.bls x f leads))/\
  Blk w' d #[.int .i64 ((c+x.n-1:Nat):Int)] 205/\Chg (fun k=>k=d\/k=b) w w'
set_option maxRecDepth 100000
set_option maxHeartbeats 4000000
theorem DR (mb t d base:Nat)(A:cr)(hv:cG A)(la sa:Option Addr)(lc sc:Nat)(lv av:Value)(RL:List db)(eD:RL.length<=80)(leads bs:List Nat)(c:Nat)(hc:c<=10000)(arcs:List Arc)(i:Nat)(lead:Nat)(hi:leads[i]?=some lead)(_hle:lead<=10000)
  (x:Rul)(hx:x.src.size<=maxLen/\x.dst.size<=maxLen/\x.nxt.size<=maxLen)(aR:1<=x.l.n)(dN:x.l.n<=9)(w:World)(h:ll w mb t d base A la sa lc sc lv av RL leads bs)(bp:Blk w t #[.int .i64 (c:Int)] 205)
  (bg:cy w d ev (arcs.map dT))(cx:base<=w.heap.size/\base<=t/\base<=d)(hA:cH w base (.agg #[.string A.name,.slice la A.letters.length lc,.slice sa A.small.length sc]) A):
  Calls prog 151 #[.pointer (some ⟨mb,0,none⟩),.int .i64 i,.agg #[.string x.src,.string x.dst,.string x.nxt,.bool x.fin]] w (DJ w t d A RL leads x.l c lead arcs):=by
 obtain⟨i0,cP,cW,dS,cX⟩:=info_parts kh;obtain⟨cY,cZ,rfl,_,_⟩:=b8.ah h.lv;obtain⟨cD,dt,rfl,_,_⟩:=b8.ah h.av;obtain⟨n,hn⟩:∃n,x.l.n=n:=⟨_,rfl⟩;have cR:(max (x.src.size:Int) (x.dst.size:Int))=(n:Int):=by
  rw[<-hn,db.n,show x.l.src=bl x.src from rfl,show x.l.dst=bl x.dst from rfl,b9,b9];omega
 have dK:=fun W=>oK (P:=prog) 79 3 i0 (.int .i64 0) underlying79 cP cW .i64 .i64 n n bW (by rw[cX];omega) (by omega) W;have Hn:=bP hn;rw[hn]at aR dN;clear hn;obtain⟨M,aQ⟩:∃M:World,M=w.alloc (.cells #[.string x.src,.string x.dst,.string x.nxt,.bool x.fin] 88):=⟨_,rfl⟩;go_enter func151,ntmps151;go_wp2_with fail;have cL:Below w.heap.size w M:=by rw[aQ];exact bX.alloc bW _
 have cc:M.heap.size=w.heap.size+1:=by rw[aQ];simp
 have cS:Blk M w.heap.size #[.string x.src,.string x.dst,.string x.nxt,.bool x.fin] 88:=by rw[aQ];exact Blk.new _ _ _
 rw[<-aQ];clear dK aQ;generalize bf:(M.alloc _)=W1;have bQ:Below M.heap.size M W1:=by rw[<-bf];exact bX.alloc bW _
 have eN:W1.heap.size=w.heap.size+2:=by rw[<-bf];simp[cc]
 have bu:W1.ownsRow M.heap.size 3 1 (.slice (some ⟨w.heap.size+1,0,none⟩) n n) n (ed (ig c 1++replicate (n-1) 0)):=by
  have:=ownsRow_lit (base:=M.heap.size) (e:=3) (size:=1) M (madeCells #[.int .i64 0] (n*1)) n bW (by unfold maxLen;omega) (by simp[madeCells]);rw[<-bf];have e:(madeCells #[.int .i64 0] (n*1)).toList=ed (ig c 1++replicate (n-1) 0):=by
   rw[oJ];obtain⟨m,rfl⟩:∃m,n=m+1:=⟨n-1,by omega⟩;simp[ed,ig,replicate_succ]
  rw[e]at this;rw[cc]at this⊢;simpa only[Nat.mul_one]using this
 have cT:Blk W1 w.heap.size #[.string x.src,.string x.dst,.string x.nxt,.bool x.fin] 88:=cS.below bQ (by omega);have a6:=cL.trans (bQ.mono (by omega));have cM:Chg (fun k=>k=t\/k=d) w W1:=Chg.ai _ a6;have dC:=bp.lt;have dz:=ch.lt bg;have cd:=h.chg bp bg cM (fun k hk=>hk.elim .inl (fun e=> .inr (.inl e)));have bV:Blk W1 t #[.int .i64 ((c+1-1:Nat):Int)] 205:=bp.below a6 dC;have bM:cy W1 d ev (arcs.map dT):=ch.below bg a6 dz;have bc:=bU bu cT cd bV bM;clear bf bu cT cd bV bM cS bQ cL;have eh:w.heap.size+1≠t/\w.heap.size+1≠d/\w.heap.size≠t/\w.heap.size≠d:=by omega
 have HH:=bP (fun(wr:World) (F:Chg (jM w t d) w wr)=>h.chg bp bg F (fun k hk=>hk));go_loopw [8] (fun i8 wr=>∃k:Nat,1<=k/\k<=n/\i8= .int .i64 k/\wr.ownsRow M.heap.size 3 1 (.slice (some ⟨w.heap.size+1,0,none⟩) n n) n (ed (ig c k++replicate (n-k) 0))/\
  Blk wr t #[.int .i64 ((c+k-1:Nat):Int)] 205/\Blk wr w.heap.size #[.string x.src,.string x.dst,.string x.nxt,.bool x.fin] 88/\cy wr d ev (arcs.map dT)/\Chg (jM w t d) w wr) (fun i8 _=>n-(intOf i8).toNat)
 case atStart=>exact⟨1,bW,aR,rfl,bc.out.1,bc.out.2.2.2.1,bc.out.2.1,bc.out.2.2.2.2,cM.mono (fun k hk=>hk.elim .inl (fun e=> .inr (.inl e)))⟩
 case round=>
  obtain⟨k,dG,eJ,rfl,Z,bZ,R,bN,u⟩:=hrel;have aq:=bP Z;have aO:=bP bZ;have bJ:=bP R;have bd:=bP bN;clear Z bZ R bN;have a:=HH.out wr u;have dm:=u.size;by_cases dH:k<n
  .have c3:wr.cell? ⟨mb,3,none⟩=some (.func (.func 149) #[.pointer (some ⟨t,0,none⟩)] #[]):=Blk.cell a.ak 3;have q1:=sH t (c+k-1) (by omega) wr aO.out;have cU:(ig c k).length=k:=gb c k;have z0:wr.cell? ⟨w.heap.size+1,k,none⟩=some (.int .i64 0):=by
    rw[aq.out.cellAt k (by omega)];refine fT _ _ 0 ?_;rw[getElem?_append_right (by omega),cU,Nat.sub_self,getElem?_replicate,if_pos (by omega)]
   have f0:=aq.out.frozenAt k;clear a cU;go_wp2_with fail;refine q1.mono ?_;rintro e w2 ⟨rfl,az⟩;have L:w2.ownsRow M.heap.size 3 1 (.slice (some ⟨w.heap.size+1,0,none⟩) n n) n (ed (ig c k++replicate (n-k) 0)):=by
    rw[az];exact cV aq.out (fun e=>by simp[Value.ownBlock]at e;omega) _
   have aI:Blk w2 t #[.int .i64 ((c+(k+1) -1:Nat):Int)] 205:=by
    rw[az];have:=aO.out.aj 0 (.int .i64 ((c+k-1+1:Nat):Int));rw[show c+(k+1) -1=c+k-1+1 from by omega];exact this
   have aL:Blk w2 w.heap.size #[.string x.src,.string x.dst,.string x.nxt,.bool x.fin] 88:=by rw[az];exact bJ.out.far (p:=⟨t,0,none⟩) (by show w.heap.size≠t;omega) _
   have aE:cy w2 d ev (arcs.map dT):=by rw[az];exact ch.setCell bd.out (fun e=>Blk.ay aO.out bd.out e) _
   have aJ:Chg (jM w t d) w w2:=by rw[az];exact u.trans (Chg.setCell wr (.inl (.inl rfl)) _)
   have z1:w2.cell? ⟨w.heap.size+1,k,none⟩=some (.int .i64 0):=by
    rw[L.cellAt k (by omega)];refine fT _ _ 0 ?_;rw[getElem?_append_right (by rw[gb];omega),gb,Nat.sub_self,getElem?_replicate,if_pos (by omega)]
   have f1:=L.frozenAt k;have HX:=bU L aI aL aE aJ;clear L aI aL aE aJ az z0 f0 c3 q1;go_wp2_with fail;obtain⟨L,aI,aL,aE,aJ⟩:=HX.out;refine⟨⟨k+1,by omega,by omega,by go_num,?_,aI.far (by show t≠w.heap.size+1;omega) _,aL.far (by show w.heap.size≠w.heap.size+1;omega) _,ch.setCell aE (by show w.heap.size+1≠d;omega) _,aJ.trans (Chg.setCell w2 (.inl (.inr (.inr (by show w.heap.size<=w.heap.size+1;omega)))) _)⟩,by simp[intOf];omega⟩;have:=(L.stored k (.int .i64 ((c+k-1:Nat):Int))).1;rw[uk (ig c k) n k (c+k-1) (gb c k) dH,<-AD c k dG]at this;exact this
  .obtain rfl:n=k:=by omega
   have c4:wr.cell? ⟨mb,4,none⟩=some (.slice cY leads.length cZ):=Blk.cell a.ak 4;have eF:i<leads.length:=(List.getElem?_eq_some_iff.1 hi).1;have hlen:=a.len;obtain⟨a',n',ae,_,H⟩:=b8.ah a.lv;obtain⟨lb,lo,af,_,b0⟩:=H (by simp[ed];omega);have aK:cY=some ⟨lb,lo,none⟩:=by injection ae with e;rw[e,af]
   subst aK;have cl:wr.cell? ⟨lb,lo+i,none⟩=some (.int .i64 (lead:Int)):=b0 i _ (fT _ _ _ hi);have dZ:leads.length<=80:=by omega
   clear ae af b0 H a;have Z:=aq.out;rw[Nat.sub_self,replicate_zero,append_nil]at Z;go_wp2_with (at_builtin;refine wpList_append_own _ rfl _ _ 79 rfl M.heap.size 3 i0 (.int .i64 0) 1 8 underlying79 cP cW dS cX rfl (by decide) _ _ _ rfl (Z.alloc _) ⟨wr.heap.size,0,none⟩ 1 1 [.int .i64 (lead:Int)] rfl rfl ?c1 ?c2 ?c3 ?c4 ?c5 ?_);case c1=>exact dQ wr [.int .i64 (lead:Int)] 3
   case c2=>simp[Value.oneCell']
   case c3=>unfold maxLen;omega
   case c4=>omega
   case c5=>simp;omega
   intro v' w3 C G _;obtain⟨wg,dr,rfl⟩:=iS C;have V:Chg (jM w t d) w w3:=(u.trans (Chg.alloc _ wr _)).trans (Chg.ax G (fun r hr=> .inl (.inr (.inr (by have:=yt hr;omega)))));have E:Blk w3 t #[.int .i64 ((c+n-1:Nat):Int)] 205:=(aO.out.alloc _).grown G (fun e=>by simp[Value.ownBlock]at e;omega);have aa:Blk w3 w.heap.size #[.string x.src,.string x.dst,.string x.nxt,.bool x.fin] 88:=(bJ.out.alloc _).grown G (fun e=>by simp[Value.ownBlock]at e);have U:cy w3 d ev (arcs.map dT):=ch.grown (ch.alloc bd.out _) G (fun e=>by simp[Value.ownBlock]at e;omega);have aU:w3.ownsRow M.heap.size 3 1 (.slice (some ⟨wg,0,none⟩) (n+1) dr) (n+1) (ed (ig c n++[lead])):=by
    rw[jZ,cc];simpa [ed]using C
   have HX:=bU aU E aa U V;clear C E aa U V G aU c4 cl Z aq aO bJ bd u dm;go_wp2_with fail;have eE:w.heap.size<wg+1/\w.heap.size+1<=wg:=by have:=(HX.out.1.lt wg rfl).1;omega
   have er:w.heap.size<=w3.heap.size:=HX.out.2.2.2.2.size;go_loopw [9] (fun i9 wr=>∃(m:Nat) (J:List Arc),1<=m/\m<=n/\i9= .int .i64 m/\cy wr d ev (J.map dT)/\(∀y,y∈J↔y∈arcs\/∃j:Nat,j+1<m/\y=eI x.l c lead (j+1) ((c:Int)+(j:Int)))/\Chg (·=d) w3 wr) (fun i9 _=>n-(intOf i9).toNat);case atStart=>exact⟨1,arcs,bW,aR,rfl,HX.out.2.2.2.1,fun y=>⟨.inl,fun h=>h.elim id (fun⟨j,hj,_⟩=>by omega)⟩,Chg.refl _ _⟩
   case round=>
    obtain⟨m,J,dJ,eK,rfl,cK,bO,u⟩:=hrel;have bH:=bP cK;have bI:=bP bO;clear cK bO;obtain⟨C,E,aa,U,V⟩:=HX.out;have F:Chg (jM w t d) w wr:=V.trans (u.mono (fun k hk=> .inr (.inl hk)));have R:=aa.chg u (by omega);have Q:=fj C u (fun g hg e=>by simp[Value.ownBlock]at hg;omega);have x0:wr.cell? ⟨w.heap.size,0,none⟩=some (.string x.src):=R.cell 0;have x1:wr.cell? ⟨w.heap.size,1,none⟩=some (.string x.dst):=R.cell 1;by_cases en:m<n
    .have y0:wr.cell? ⟨wg,m,none⟩=some (.int .i64 ((c:Int)+(m:Int) -1)):=by
      rw[Q.cellAt m (by omega),tK c n lead m (by omega) dJ,if_neg (by omega)]
     have y1:wr.cell? ⟨wg,m+1,none⟩=some (.int .i64 (jb x.l c lead m)):=by
      rw[Q.cellAt (m+1) (by omega),tK c n lead (m+1) (by omega) (by omega),jb,Hn.out];split
      .rfl
      .congr 2;omega
     have a:=HH.out wr F;have S:=tn mb d _ rfl (eI x.l c lead m ((c:Int)+(m:Int) -1)) _ wr.drew a.ak bH.out;rw[re]at S;unfold eI at S;have eO:IntKind.i64.wrap ((m:Int)+1)=(m:Int)+1:=IntWalk.i64_in _ (by omega);have az:(0:Int)<=(m:Int)+1:=by omega
     have eP:((m:Int)+1).toNat=m+1:=by omega
     have ei:m<n+1:=by omega
     have ej:m+1<n+1:=by omega
     have ek:(m:Int)<(n:Int)+1:=by omega
     clear a C E aa U V R Q;go_wp2_with fail;refine wp_region_still_tail 19 (by kernel_rfl) (by kernel_rfl) ?_;simp only[take_succ_cons,take_zero,drop_succ_cons,drop_zero];repeat (first |still_step |still_call (tp _ _ _ hx.1) |still_call (tp _ _ _ hx.2.1))
     refine wpStill_nil ?_;change wpList _ _ _ _ _ wr.drew;have HQ:=bP S;clear S x0 x1 y0 y1;go_wp2_with fail;refine HQ.out.mono ?_;rintro e w4 ⟨rfl,dw,dB⟩;have dh:Chg (·=d) w3 w4:=(u.trans (Chg.drewN _ wr 1)).trans dB;go_wp2_with fail;refine⟨⟨m+1,_,by omega,by omega,by go_num,dw,fun y=>?_,dh⟩,by simp[intOf];omega⟩;rw[rH,bI.out];constructor
     .rintro((h |⟨j,hj,e⟩) |h)
      .exact .inl h
      .exact .inr ⟨j,by omega,e⟩
      .refine .inr ⟨m-1,by omega,?_⟩;rw[h,eI,show m-1+1=m from by omega];congr 1;omega
     .rintro(h |⟨j,hj,e⟩)
      .exact .inl (.inl h)
      .by_cases dF:j+1=m
       .right;subst dF;rw[e,eI];congr 1;omega
       .exact .inl (.inr ⟨j,by omega,e⟩)
    .have cR:m=n:=by omega
     subst cR;have a:=HH.out wr F;have bK:Below base w wr:=F.below (fun k hk=>by rcases hk with e |e |e<;>omega) cx.1;have ql:=qJ A hv x.src hx.1 mb la sa lc sc _ wr a.ak rfl rfl rfl ((hA.below bK bW).more (by have:=bK.size;omega));clear a x1;go_wp2_with fail;refine ql.mono ?_;rintro e T ⟨b5,eR,rfl,_,_,_,aB⟩;have a8:Chg (jM w t d) w T:=F.trans (Chg.ai _ aB);have ba:=R.below aB R.lt;have bw:=cJ Q aB;have cI:=ch.below bH.out aB (ch.lt bH.out);have bY:=(E.chg u (fun e=>Blk.ay E U e)).below aB (by have:=E.lt;have:=u.size;omega);have x0:T.cell? ⟨w.heap.size,0,none⟩=some (.string x.src):=ba.cell 0;have x1:T.cell? ⟨w.heap.size,1,none⟩=some (.string x.dst):=ba.cell 1;have y1:T.cell? ⟨wg,1,none⟩=some (.int .i64 (jb x.l c lead 0)):=by
      rw[bw.cellAt 1 (by omega),tK c m lead 1 (by omega) (by omega),jb,Hn.out];by_cases h1:1=m
      .rw[if_pos h1,if_pos (by omega)]
      .rw[if_neg h1,if_neg (by omega)];congr 2;omega
     have H5:=bS a8 bY cI;have eQ:w.heap.size<=T.heap.size:=a8.size;have hp0:0<m:=by omega
     have eL:(0:Int)<(m:Int):=by omega
     have eM:(1:Int)<(m:Int)+1:=by omega
     obtain⟨letter,Y⟩:∃z,fQ A.bls (bl x.src)=z:=⟨_,rfl⟩;rw[Y];have bz:=bP Y;clear ql C E aa U V F R Q bK a8 ba bw cI bY Y aB u HX;have dL:=new_ne T ⟨w.heap.size,0,none⟩ x0;have aR:=new_ne T ⟨w.heap.size,1,none⟩ x1;have dM:=new_ne T ⟨wg,1,none⟩ y1;go_upto_region 13 with (fail);go_cut [12] (fun p wx=>∃g,p= .pointer (some ⟨g,0,none⟩)/\Blk wx g #[.int .i64 0,.int .i64 (dv (bl x.src) 0),.int .i64 (dv (bl x.dst) 0),.int .i64 (jb x.l c lead 0)] 171/\T.heap.size<=g/\Below T.heap.size T wx);case first=>
      go_region_held3 (fun w'=>w'.cell? ⟨w.heap.size,0,none⟩=some (.string x.src)/\w'.cell? ⟨w.heap.size,1,none⟩=some (.string x.dst)/\w'.cell? ⟨wg,1,none⟩=some (.int .i64 (jb x.l c lead 0))) (go_keep)
       (first |(go_at_call_of 205 (Value.string x.src);refine(vO x.src _ hx.1).mono ?_;rintro e w' ⟨rfl,rfl⟩) |(go_at_call_of 205 (Value.string x.dst);refine(vO x.dst _ hx.2.1).mono ?_;rintro e w' ⟨rfl,rfl⟩))
      all_goals (go_wp2_with fail;go_meet;refine⟨T.heap.size,rfl,?_,bW,?_⟩)
      all_goals first |exact Blk.new _ _ _ |exact(bX.alloc bW _).drew
     case rest=>
      obtain⟨ob,rfl,aS,eg,a1⟩:=hcut;clear dL aR dM x0 x1 y1;have dj:=aS;obtain⟨w6,cj⟩:∃w6,wc.alloc (.cells #[.int .i64 0,.int .i64 1] 3)=w6:=⟨_,rfl⟩;have au:Blk w6 wc.heap.size #[.int .i64 0,.int .i64 1] 3:=by rw[<-cj];exact Blk.new _ _ _
      have a7:Below wc.heap.size wc w6:=by rw[<-cj];exact bX.alloc bW _
      have aF:Below T.heap.size T w6:=a1.trans (a7.mono a1.size);have H6:=bP (show Chg (jM w t d) w w6/\Blk w6 t #[.int .i64 ((c+m-1:Nat):Int)] 205/\cy w6 d ev (J.map dT)/\Blk w6 ob #[.int .i64 0,.int .i64 (dv (bl x.src) 0),.int .i64 (dv (bl x.dst) 0),.int .i64 (jb x.l c lead 0)] 171/\Blk w6 wc.heap.size #[.int .i64 0,.int .i64 1] 3 from
       ⟨H5.out.1.trans (Chg.ai _ aF),H5.out.2.1.below aF H5.out.2.1.lt,ch.below H5.out.2.2 aF (ch.lt H5.out.2.2),aS.below a7 aS.lt,au⟩)
      have dk:=aS.lt;have ee:=ch.lt H5.out.2.2;have dY:=H5.out.2.1.lt;clear aS dj au a7 aF a1 H5;go_wp2_with fail;clear cj;obtain⟨lit,au⟩:∃lit,wc.heap.size=lit:=⟨_,rfl⟩;rw[au]at H6 dk⊢;clear au;obtain⟨bA,bR⟩:∃z,dv (bl x.src) 0=z:=⟨_,rfl⟩;obtain⟨bB,bT⟩:∃z,dv (bl x.dst) 0=z:=⟨_,rfl⟩;obtain⟨aT,bL⟩:∃z,jb x.l c lead 0=z:=⟨_,rfl⟩;rw[bR,bT,bL]at H6;have an:=bP (show∀f:Int,(⟨f,bA,bB,aT⟩:Arc)=eI x.l c lead 0 f from fun f=>by rw[eI,<-bR,<-bT,<-bL];rfl);clear bR bT bL;have eu:w.heap.size<=w6.heap.size:=H6.out.1.size;go_loopw [91] (fun i9 wr=>∃(j:Nat) (N:List Arc),j<=2/\i9= .int .i64 j/\cy wr d ev (N.map dT)/\(∀y,y∈N↔y∈J\/∃s:Nat,s<j/\y=eI x.l c lead 0 (s:Int))/\(∃f:Int,Blk wr ob #[.int .i64 f,.int .i64 bA,.int .i64 bB,.int .i64 aT] 171)/\Chg (fun k=>k=d\/k=ob) w6 wr) (fun i9 _=>2-(intOf i9).toNat);case atStart=>exact⟨0,J,by omega,rfl,H6.out.2.2.1,fun y=>⟨.inl,fun h=>h.elim id (fun⟨s,I,_⟩=>by omega)⟩,⟨0,H6.out.2.2.2.1⟩,Chg.refl _ _⟩
      case round=>
       obtain⟨j,N,eG,rfl,cE,bh,⟨f,b4⟩,bk⟩:=hrel;have bF:=bP cE;have be:=bP bh;have B:=bP b4;clear cE bh b4;have F:Chg (jM w t d) w wr:=H6.out.1.trans (bk.mono (fun k hk=>hk.elim (fun e=> .inr (.inl e)) (fun e=> .inr (.inr (by omega)))));have a:=HH.out wr F;have ao:ob≠d:=Blk.ay B.out bF.out;by_cases eH:j<2
       .have br:=(H6.out.2.2.2.2).chg bk (fun e=>e.elim (fun e=>Blk.ay H6.out.2.2.2.2 H6.out.2.2.1 e) (fun e=>by omega));have l0:wr.cell? ⟨lit,j,none⟩=some (.int .i64 (j:Int)):=by
         rw[br.cell j];rcases (by omega:j=0\/j=1)with rfl |rfl<;>rfl
        have o0:=B.out.cell 0;have cv:=B.out.frozen 0;have o1:=B.out.cell 1;have o2:=B.out.cell 2;have o3:=B.out.cell 3;simp only[getElem?_toArray,getElem?_cons_zero,getElem?_cons_succ]at o0 o1 o2 o3;have aw:Blk (wr.setCell ⟨ob,0,none⟩ (.int .i64 (j:Int))) mb _ 211:=Blk.far a.ak (p:=⟨ob,0,none⟩) (fun e=>Blk.aG a.ak B.out (by decide) e) _;have S:=tn mb d _ rfl (eI x.l c lead 0 (j:Int)) _ (wr.setCell ⟨ob,0,none⟩ (.int .i64 (j:Int))) aw (ch.setCell bF.out ao _);rw[<-an.out]at S;rw[re]at S;have HQ:=bP S;clear S aw br a;go_wp2_with fail;refine HQ.out.mono ?_;rintro e w7 ⟨rfl,dx,cN⟩;have de:Chg (fun k=>k=d\/k=ob) w6 w7:=(bk.trans (Chg.setCell wr (.inl (.inr rfl)) _)).trans (cN.mono (fun k hk=> .inl hk));have b7:=(B.out.aj 0 (.int .i64 (j:Int))).chg cN ao;have c0:=bP b7;clear b7 o0 o1 o2 o3 l0 cv;go_wp2_with fail;refine⟨⟨j+1,_,by omega,by go_num,dx,fun y=>?_,⟨(j:Int),c0.out⟩,de⟩,by simp[intOf];omega⟩;rw[rH,be.out,an.out];constructor
        .rintro((h |⟨s,I,e⟩) |h)
         .exact .inl h
         .exact .inr ⟨s,by omega,e⟩
         .exact .inr ⟨j,by omega,h⟩
        .rintro(h |⟨s,I,e⟩)
         .exact .inl (.inl h)
         .by_cases dR:s=j
          .subst dR;exact .inr e
          .exact .inl (.inr ⟨s,by omega,e⟩)
       .have hj:j=2:=by omega
        subst hj;obtain⟨w7,rfl⟩:∃w7:World,w7=wr:=⟨_,rfl⟩;have c5:w7.cell? ⟨mb,5,none⟩=some (.slice cD bs.length dt):=Blk.cell a.ak 5;have dA:=a.aP;have ew:w.heap.size<=w7.heap.size:=F.size;clear a;go_wp2_with fail;go_loopw [105] (fun i9 wr=>∃(q:Nat) (O:List Arc),q<=bs.length/\i9= .int .i64 q/\cy wr d ev (O.map dT)/\(∀y,y∈O↔y∈N\/∃s:Nat,s∈di A.bls x.l (RL.take q) (leads.take q)/\y=eI x.l c lead 0 (s:Int))/\(∃f:Int,Blk wr ob #[.int .i64 f,.int .i64 bA,.int .i64 bB,.int .i64 aT] 171)/\Chg (fun k=>k=d\/k=ob) w7 wr) (fun i9 _=>bs.length-(intOf i9).toNat);case atStart=>exact⟨0,N,by omega,rfl,bF.out,fun y=>⟨.inl,fun h=>h.elim id (fun⟨s,I,_⟩=>by simp[di]at I)⟩,⟨f,B.out⟩,Chg.refl _ _⟩
        case round=>
         obtain⟨q,O,hq,rfl,cF,bj,⟨f3,b6⟩,bm⟩:=hrel;have bG:=bP cF;have aC:=bP bj;have D:=bP b6;clear cF bj b6;have X:Chg (jM w t d) w wr:=F.trans (bm.mono (fun k hk=>hk.elim (fun e=> .inr (.inl e)) (fun e=> .inr (.inr (by omega)))));have a:=HH.out wr X;have hlen:=a.len;by_cases dP:q<bs.length
         .obtain⟨b,hb⟩:∃b,bs[q]?=some b:=⟨_,getElem?_eq_getElem dP⟩;obtain⟨o,ho⟩:∃o,RL[q]?=some o:=⟨_,getElem?_eq_getElem (by omega)⟩;obtain⟨sl,bx⟩:∃sl,leads[q]?=some sl:=⟨_,getElem?_eq_getElem (by omega)⟩;obtain⟨ks,dI,cQ⟩:=a.bE q b o hb ho;obtain⟨a',n',ae,_,H⟩:=b8.ah a.av;obtain⟨g5,o5,af,_,b1⟩:=H (by simp;omega);have dc:cD=some ⟨g5,o5,none⟩:=by injection ae with e;rw[e,af]
          subst dc;have cm:wr.cell? ⟨g5,o5+q,none⟩=some (.map (some b)):=b1 q _ (by simp[hb]);have bt:=cy.look dI Br underlying212 (qk wr) (key:=iA letter) (DH _);have b3:decide (iA letter∈ks.map iA)=jT A.bls x.l o:=by
           rw[jT,Bool.eq_iff_iff,decide_eq_true_eq,contains_iff_mem,<-cQ];rw[mem_map];have dD:fQ A.bls x.l.src=letter:=bz.out;rw[dD];exact⟨fun⟨z,hz,e⟩=>(show z=letter by simpa [iA]using e)▸hz,fun h=>⟨letter,h,rfl⟩⟩
          have cf:RL.take (q+1)=RL.take q++[o]:=by rw[take_add_one,ho];rfl
          have cg:leads.take (q+1)=leads.take q++[sl]:=by rw[take_add_one,bx];rfl
          have cC:=bP (show di A.bls x.l (RL.take (q+1)) (leads.take (q+1))=di A.bls x.l (RL.take q) (leads.take q)++if jT A.bls x.l o then [sl] else []from by
           rw[cf,cg];exact oL _ _ _ _ _ _ (by rw[length_take,length_take];omega))
          rw[b3]at bt;unfold iA at bt;clear b3 cf cg ae af b1 H hb cQ;by_cases ar:jT A.bls x.l o=true
          .have c4:wr.cell? ⟨mb,4,none⟩=some (.slice (some ⟨lb,lo,none⟩) leads.length cZ):=Blk.cell a.ak 4;obtain⟨a',n',ae,_,H⟩:=b8.ah a.lv;obtain⟨g6,o6,af,_,b2⟩:=H (by simp[ed];omega);have aK:(⟨lb,lo,none⟩:Addr)=⟨g6,o6,none⟩:=by injection ae with e;rw[af]at e;injection e
           have cl:wr.cell? ⟨lb,lo+q,none⟩=some (.int .i64 (sl:Int)):=by
            have:=b2 q _ (fT _ _ _ bx);injection aK with e1 e2 _;rw[e1,e2];exact this
           have o0:=D.out.cell 0;have cv:=D.out.frozen 0;have o1:=D.out.cell 1;have o2:=D.out.cell 2;have o3:=D.out.cell 3;simp only[getElem?_toArray,getElem?_cons_zero,getElem?_cons_succ]at o0 o1 o2 o3;have aw:Blk (wr.setCell ⟨ob,0,none⟩ (.int .i64 (sl:Int))) mb _ 211:=Blk.far a.ak (p:=⟨ob,0,none⟩) (fun e=>Blk.aG a.ak D.out (by decide) e) _;have S:=tn mb d _ rfl (eI x.l c lead 0 (sl:Int)) _ (wr.setCell ⟨ob,0,none⟩ (.int .i64 (sl:Int))) aw (ch.setCell bG.out ao _);rw[<-an.out]at S;rw[re]at S;have HQ:=bP S;rw[ar]at bt;have aY:=bP ar;have eo:q<leads.length:=by omega
           clear S aw a ae af b2 H aK ar bx ho;go_wp2_with fail;refine HQ.out.mono ?_;rintro e w8 ⟨rfl,dy,cO⟩;have df:Chg (fun k=>k=d\/k=ob) w7 w8:=(bm.trans (Chg.setCell wr (.inl (.inr rfl)) _)).trans (cO.mono (fun k hk=> .inl hk));have ca:=(D.out.aj 0 (.int .i64 (sl:Int))).chg cO ao;have c6:=bP ca;clear ca o0 o1 o2 o3 cl c4 cv;go_wp2_with fail;refine⟨?_,by simp[intOf];omega⟩;repeat apply Exists.intro
           refine⟨⟨q+1,_,by omega,by go_num,dy,fun y=>?_,⟨(sl:Int),c6.out⟩,df⟩,rfl⟩;rw[rH,aC.out,an.out,cC.out,if_pos aY.out];constructor
           .rintro((h |⟨s,I,e⟩) |h)
            .exact .inl h
            .exact .inr ⟨s,mem_append_left _ I,e⟩
            .exact .inr ⟨sl,mem_append_right _ (by simp),h⟩
           .rintro(h |⟨s,I,e⟩)
            .exact .inl (.inl h)
            .rcases mem_append.1 I with h |h
             .exact .inl (.inr ⟨s,h,e⟩)
             .simp at h;subst h;exact .inr e
          .have aH:jT A.bls x.l o=false:=by simpa using ar
           rw[aH]at bt;have aY:=bP aH;clear a ar aH bx ho;go_wp2_with fail;refine⟨⟨q+1,O,by omega,by go_num,bG.out,fun y=>?_,⟨f3,D.out⟩,bm⟩,by simp[intOf];omega⟩;rw[aC.out,cC.out,aY.out];simp
         .have dO:q=bs.length:=by omega
          subst dO;go_wp2_with fail;refine bodyPost_end (v:= .tuple #[]) (by simp[results,results151,go_sem]) rfl ?_;refine⟨rfl,⟨O,bG.out,fun y=>?_⟩,?_,?_⟩
          .rw[aC.out,be.out,bI.out,dA,take_length,<-hlen,take_length,xf,Hn.out];constructor
           .rintro(((h |h) |⟨s,I,e⟩) |⟨s,I,e⟩)
            .exact .inl h
            .exact .inr (.inr h)
            .refine .inr (.inl ⟨s,?_,e⟩);rcases (by omega:s=0\/s=1)with rfl |rfl<;>simp
            .exact .inr (.inl ⟨s,by simp[I],e⟩)
           .rintro(h |⟨s,I,e⟩ |h)
            .exact .inl (.inl (.inl h))
            .rcases mem_cons.1 I with rfl |I
             .exact .inl (.inr ⟨0,by omega,e⟩)
             .rcases mem_cons.1 I with rfl |I
              .exact .inl (.inr ⟨1,by omega,e⟩)
              .exact .inr ⟨s,I,e⟩
            .exact .inl (.inl (.inr h))
          .rw[Hn.out];have bq:t≠d:=Blk.ay H6.out.2.1 H6.out.2.2.1;exact(H6.out.2.1.chg bk (fun e=>e.elim bq (fun e=>by omega))).chg bm (fun e=>e.elim bq (fun e=>by omega))
          .exact⟨X.os,X.tape,X.output,X.size,fun k hk hS=>X.block k hk (fun h=>by rcases h with e |e |e;exact hS (.inl e);exact hS (.inr e);omega)⟩
end
end Go.Proofs.YtmhdgddjeadjjaaGreatDoor
