/- C5 -/
import Derived.Test.YtmhdgddjeadjjaaGreatDoorP21
import Derived.Test.YtmhdgddjeadjjaaGreatDoorP25
namespace Go.Proofs.YtmhdgddjeadjjaaGreatDoor
open _root_.List Go.Lib _root_.Nat Go.World _root_.Int Go.Proofs.Tryz
variable {xs:List Value}{ab b cb lc mb r sc:Nat}{la sa:Option Addr}{av lv:Value}{Ok:Value → Prop}{w:World}{A:cr}
section
open Go.RowKit Classical
theorem ch.length {P:Program}{l:List (Value×Value)}{k e t:TypeId}(h:ch w b Ok l)(c:P.underlying t=some (.map k e))(ty:TypeId):
  (Builtin.len_ #[t] ty #[.map (some b)]).run P w= .ok (.int .i64 (l.length:Int)) w:=by
 obtain⟨es,clock,a,_,_,rfl⟩:=h;simp[Builtin.len_,run_underlying c,MapKept.run_getObj_map a,goInt,Result.andThen]
theorem C2:(prog.info? 212).map (fun i=>(i.zero,i.size,i.bytes))=some (some (.map none),1,8):=by kernel_rfl
theorem zZ {c:World}{base:Nat}{a:Value}{j:List db}{leads bs:List Nat}{O:Obj}{n:Nat}
  (h:ll w mb cb ab base A la sa lc sc lv av j leads bs)(f:c.ownsRow base 3 1 a n xs)(i:(w.alloc O).grownBy c lv.ownBlock):
  qY (c.setCell ⟨mb,4,none⟩ a) mb A la sa lc sc cb a av ab/\(c.setCell ⟨mb,4,none⟩ a).ownsRow base 3 1 a n xs/\(c.setCell ⟨mb,4,none⟩ a).ownsRow base 212 1 av bs.length (bs.map fun b:Nat=>Value.map (some b))/\
   Chg (fun k=>k=mb\/lv.ownBlock=some k\/av.ownBlock=some k\/w.heap.size<=k) w (c.setCell ⟨mb,4,none⟩ a):=by
 have d:Blk c mb _ 211:=(Blk.alloc h.ak O).grown i (fun e=>Blk.own_ne h.ak h.lv (by decide) e.symm);have g:=dK (h.av.alloc O) (h.lv.alloc O) (by decide) i;refine⟨d.aj 4 a,cV f (p:=⟨mb,4,none⟩) (fun e=>d.own_ne f (by decide) e) _,cV g (p:=⟨mb,4,none⟩) (fun e=>d.own_ne g (by decide) e) _,?_⟩;refine((Chg.alloc _ w O).trans (Chg.ax i (fun r l=> .inl (.inr (.inl l))))).trans (Chg.setCell _ (.inl (.inl rfl)) _)
theorem yr {w0 b:World}{base:Nat}{a:Value}{O:Obj}{n m k:Nat}{u o:List Value}{S:Nat->Prop}
  (hm:qY w mb A la sa lc sc cb lv av ab)(s:w.ownsRow base 3 1 lv n xs)(l:w.ownsRow base 212 1 av m u)(q:Chg S w0 w)(i:S mb)(j:∀k,av.ownBlock=some k->S k)
  (d:b.ownsRow base 212 1 a k o)(g:(w.alloc O).grownBy b av.ownBlock):
  qY (b.setCell ⟨mb,5,none⟩ a) mb A la sa lc sc cb lv a ab/\(b.setCell ⟨mb,5,none⟩ a).ownsRow base 3 1 lv n xs/\(b.setCell ⟨mb,5,none⟩ a).ownsRow base 212 1 a k o/\
   Chg S w0 (b.setCell ⟨mb,5,none⟩ a):=by
 have c:Blk b mb _ 211:=(Blk.alloc hm O).grown g (fun e=>Blk.own_ne hm l (by decide) e.symm);have f:=dK (s.alloc O) (l.alloc O) (by decide) g;refine⟨c.aj 5 a,cV f (p:=⟨mb,5,none⟩) (fun e=>c.own_ne f (by decide) e) _,cV d (p:=⟨mb,5,none⟩) (fun e=>c.own_ne d (by decide) e) _,?_⟩;exact((q.trans (Chg.alloc _ w O)).trans (Chg.ax g (fun r t=> .inl (j r t)))).trans (Chg.setCell _ (.inl i) _)
theorem ll.more {w':World}{base:Nat}{m i:Value}{n:List db}{leads bs:List Nat}{o:Array Value}{arcs:List Value}{lead:Nat}{x:db}{ks:List Int}
  (h:ll w mb cb ab base A la sa lc sc lv av n leads bs)(d:Blk w cb o 205)(p:cy w ab ev arcs)(C:cy w b jO (ks.map iA))(s:∀z:Int,z∈ks↔z∈(cB A.bls x.nxt).letters)(t:b≠ab)
  (hm:qY w' mb A la sa lc sc cb m i ab)(B:w'.ownsRow base 3 1 m (leads.length+1) (ed leads++[.int .i64 lead]))(y:w'.ownsRow base 212 1 i (bs.length+1) ((bs.map fun b:Nat=>Value.map (some b))++[.map (some b)]))
  (q:Chg (fun k=>k=mb\/lv.ownBlock=some k\/av.ownBlock=some k\/w.heap.size<=k) w w'):
  ll w' mb cb ab base A la sa lc sc m i (n++[x]) (leads++[lead]) (bs++[b])/\Blk w' cb o 205/\cy w' ab ev arcs:=by
 have g:∀{f:Nat} {Ok:Value->Prop} {l:List (Value×Value)},ch w f Ok l->ch w' f Ok l:=fun {f Ok l} j=>by
  refine ch.chg j q ?_;rintro(e |e |e |e)
  .exact Blk.ay h.ak j e.symm
  .exact j2 h.lv j e
  .exact j2 h.av j e
  .have:=ch.lt j;omega
 refine⟨⟨hm,?_,?_,?_,?_,?_,?_⟩,Blk.chg d q ?_,g p⟩
 .rw[length_append,jZ];exact B
 .rw[length_append,map_append];exact y
 .rw[length_append,length_append,h.len];rfl
 .rw[length_append,length_append,h.aP];rfl
 .intro k f D a c;rcases Nat.lt_or_ge k bs.length with hk |hk
  .rw[getElem?_append_left hk]at a;rw[getElem?_append_left (by rw[<-h.aP];exact hk)]at c;obtain⟨u,h1,v⟩:=h.bE k f D a c;exact⟨u,g h1,v⟩
  .rw[getElem?_append_right hk]at a;rw[getElem?_append_right (by rw[<-h.aP];exact hk)]at c;have r:k=bs.length:=by
    have:=(List.getElem?_eq_some_iff.1 a).1;simp at this;omega
   subst r;rw[<-h.aP]at c;simp at a c;subst a;subst c;exact⟨ks,g C,s⟩
 .intro f a;rcases mem_append.1 a with a |a
  .exact h.apart f a
  .rw[mem_singleton.1 a];exact t
 .rintro(e |e |e |e)
  .exact Blk.aG d h.ak (by decide) e
  .exact d.own_ne h.lv (by decide) e
  .exact d.own_ne h.av (by decide) e
  .have:=d.lt;omega
theorem rF (s:Nat)(l:List db):∀x∈cQ s l,x<=s+l.length+2:=by
 induction l generalizing s with
 |nil=>simp[cQ]
 |cons y l b=>
  intro x a;rw[cQ]at a;rw[length_cons];split at a
  .rcases mem_cons.1 a with e |e
   .subst e;split<;>omega
   .have:=b s x e;omega
  .rcases mem_cons.1 a with e |e
   .omega
   .have:=b (s+1) x e;omega
def vG:Prop:=∀(l:List Arc) (g c base:Nat) (w:World),l.length<=10000->w.ownsRow base 171 4 (.slice (some ⟨g,0,none⟩) l.length c) l.length (flat l)->
 Calls prog 152 #[.slice (some ⟨g,0,none⟩) l.length c,.func (.func 153) #[] #[]] w fun e w'=>
  e= .returned (.tuple #[])/\∃S:List Arc,S.length=l.length/\(∀y,y∈S↔y∈l)/\(l.Nodup->cR S)/\w'.ownsRow base 171 4 (.slice (some ⟨g,0,none⟩) l.length c) l.length (flat S)/\Chg (·=g) w w'
noncomputable def leftW (w:World)(b r:Nat):Nat:=match w.heap[b]?,w.heap[r]? with
 |some (.map es _),some (.mapIter _ _ seen _)=>(leftOf es seen).size
 |_,_=>0
theorem cx.leftW {l left:List (Value×Value)}(h:cx w b r Ok l left):leftW w b r=left.length:=by
 obtain⟨es,clock,since,seen,c0,h1,_,_,_,a,_,_,_,rfl⟩:=h;simp[Go.Proofs.YtmhdgddjeadjjaaGreatDoor.leftW,h1,a]
theorem cx.bp {l left:List (Value×Value)}{base:Nat}{e:TypeId}{size n:Nat}{v:Value}(h:cx w b r Ok l left)(d:w.ownsRow base e size v n xs):v.ownBlock≠some r:=by
 obtain⟨es,clock,since,seen,c0,_,_,_,_,a,_⟩:=h;rcases d.2 with ⟨rfl,_⟩ |⟨g,cap,cur,rfl,_,c,_⟩
 .simp[Value.ownBlock]
 .intro he;have:g=r:=by simpa [Value.ownBlock]using he
  subst this;rw[c]at a;cases a
theorem cx.aG {l left:List (Value×Value)}{g:Nat}{cs:Array Value}{t:TypeId}(h:cx w b r Ok l left)(c:Blk w g cs t):g≠r:=by
 obtain⟨es,clock,since,seen,c0,_,_,_,_,a,_⟩:=h;intro e;subst e;rw[show w.heap[g]?=_ from c]at a;cases a
theorem kW {α:Type}[BEq α][LawfulBEq α]:∀{l m:List α},l.Nodup->(∀x∈l,x∈m)->l.length<=m.length
 |[],_,_,_=>zero_le _
 |x::l,m,a,b=>by
  have c:=b x (by simp);have h1:=kW (l:=l) (m:=m.erase x) (nodup_cons.1 a).2 (fun y d=>by
   refine(mem_erase_of_ne (fun e=>?_)).2 (b y (mem_cons_of_mem _ d));subst e;exact(nodup_cons.1 a).1 d)
  have f:=length_erase_of_mem c;have g:=length_pos_of_mem c;rw[length_cons];omega
theorem zr {l:List Arc}(h:cy w b ev (l.map dT)):l.Nodup:=
 (pairwise_map.1 (cy.nodup h)).imp (fun {a b} (c:dT a≠dT b) (e:a=b)=>c (by rw[e]))
def rj (x:Arc):Value×Value:=(dT x,.bool true)
theorem Az {c:List Arc}{A B:List (Value×Value)}{p:Value×Value}(h:c.map rj=A++p::B):∃a z b,c=a++z::b/\a.map rj=A/\p=rj z/\b.map rj=B:=by
 obtain⟨a,r,rfl,h1,d⟩:=map_eq_append_iff.1 h;obtain⟨z,b,rfl,e,f⟩:=map_eq_cons_iff.1 d;exact⟨a,z,b,rfl,h1,e.symm,f⟩
theorem tu {L:List (List UInt8)}{l:List db}(h:l≠[]):eX L l≠[]:=by
 cases l with
 |nil=>exact absurd rfl h
 |cons x r=>
  unfold eX;rw[cQ];split<;>simp[dH,gG]
set_option maxRecDepth 100000
set_option maxHeartbeats 4000000
theorem xQ (ef:vG)(R:dj)(A B:cr)(v va vb:Value)(w:World)(h:dY w w.heap.size v R)(ha:cH w w.heap.size va A)(hb:cH w w.heap.size vb B):
  Calls prog 91 #[v,va,vb] w (mT (dr R A B) R A w):=by
 have hR:=h;have hA:=ha;have hB:=hb;obtain⟨la,lc,rfl,gW,gX,fM,eQ,hl⟩:=h;obtain⟨fa,fc,ga,gc,rfl,hn,gP,gY,gS,gN,gO⟩:=ha;obtain⟨fy,fz,fA,fC,rfl,gU,gQ,gZ,gB,gy,gz⟩:=hb;unfold maxLen at fM;have fO:= @run_makeMap prog;go_enter func91,ntmps91;go_wp2_with fail;generalize ba:((((w.alloc _).alloc _).alloc _).alloc _)=W0;have D:Below w.heap.size w W0:=by rw[<-ba];exact(((bX.alloc bW _).alloc (by simp) _).alloc (by simp;omega) _).alloc (by simp;omega) _
 have hd:W0.heap.size=w.heap.size+4:=by rw[<-ba];simp
 have C:Box W0 w.heap.size [Value.string R.src,.string R.dst,.slice la R.list.length lc]:=by
  rw[<-ba];exact(((Box.new _ _ _).alloc (by simp) _).alloc (by simp;omega) _).alloc (by simp;omega) _
 have eA:Box W0 (w.heap.size+1) [Value.string A.name,.slice fa A.letters.length fc,.slice ga A.small.length gc]:=by
  rw[<-ba];have:=(Box.new (w.alloc (.cells #[Value.string R.src,.string R.dst,.slice la R.list.length lc] 91)) [Value.string A.name,.slice fa A.letters.length fc,.slice ga A.small.length gc] 83);simp at this;exact(this.alloc (by simp) _).alloc (by simp) _
 have eB:W0.heap[w.heap.size+3]?=some (.cells #[.int .i64 0,.int .i64 0,.slice none 0 0,.slice none 0 0] 98 (0,0)):=by
  rw[<-ba,show w.heap.size+3=(((w.alloc (.cells #[Value.string R.src,.string R.dst,.slice la R.list.length lc] 91)).alloc (.cells #[Value.string A.name,.slice fa A.letters.length fc,.slice ga A.small.length gc] 83)).alloc (.cells #[Value.string B.name,.slice fy B.letters.length fz,.slice fA B.small.length fC] 83)).heap.size from by simp];exact heap_alloc_new _ _
 clear ba;have Hk:=bP (fun wr (aF:Below W0.heap.size W0 wr)=>And.intro (C.below aF (by omega)).c3 (And.intro (eA.below aF (by omega)).c3 ((aF.block (w.heap.size+3) (by omega)).trans eB)));clear C eA eB;refine(rW R A B _ _ _ _ ((hR.below D bW).more D.size) ((hA.below D bW).more D.size) ((hB.below D bW).more D.size)).mono ?_;rintro e c ⟨rfl,bd⟩;have fg:=D.trans (bd.mono D.size);obtain⟨⟨r0,r1,r2⟩,⟨a0,a1,a2⟩,hm⟩:=Hk.out c bd;have m0:c.cell? ⟨w.heap.size+3,0,none⟩=some (.int .i64 0):=cell_of_row _ _ 0 _ _ _ hm;have m1:c.cell? ⟨w.heap.size+3,1,none⟩=some (.int .i64 0):=cell_of_row _ _ 1 _ _ _ hm;have m2:c.cell? ⟨w.heap.size+3,2,none⟩=some (.slice none 0 0):=cell_of_row _ _ 2 _ _ _ hm;have m3:c.cell? ⟨w.heap.size+3,3,none⟩=some (.slice none 0 0):=cell_of_row _ _ 3 _ _ _ hm;have f0:∀j,c.frozen? ⟨w.heap.size+3,j,none⟩=false:=fun j=>by simp[frozen?,hm]
 by_cases hv:dr R A B
 .rw[decide_eq_true hv];have hf:=hv.1;have gT:=hf.2.2.1;have gC:=hf.2.2.2.1;obtain⟨b,off,rfl,hb,hc⟩:=hl.aU (by omega);have eF:=bP (fun wr (aF:Below w.heap.size w wr) i (hi:i<R.list.length)=>
   (And.intro ((aF.cell (p:=⟨b,off+i*4,none⟩) hb).trans (hc i hi).1) (And.intro ((aF.cell (p:=⟨b,off+i*4+1,none⟩) hb).trans (hc i hi).2.1)
    (And.intro ((aF.cell (p:=⟨b,off+i*4+2,none⟩) hb).trans (hc i hi).2.2.1) ((aF.cell (p:=⟨b,off+i*4+3,none⟩) hb).trans (hc i hi).2.2.2)))))
  have HV:=bP hv;have Hf:=bP hf;clear hc hv hf m0 m1 m2 m3 f0 hm;have bz:=bd.size;have b0:(c.alloc (Obj.cells #[.int .i64 3] 205)).cell? ⟨w.heap.size+1,0,none⟩=some (.string A.name):=(cell?_alloc_lt c _ _ (by show w.heap.size+1<_;omega)).trans a0;have b1:(c.alloc (Obj.cells #[.int .i64 3] 205)).cell? ⟨w.heap.size+1,1,none⟩=some (.slice fa A.letters.length fc):=(cell?_alloc_lt c _ _ (by show w.heap.size+1<_;omega)).trans a1;have b2:(c.alloc (Obj.cells #[.int .i64 3] 205)).cell? ⟨w.heap.size+1,2,none⟩=some (.slice ga A.small.length gc):=(cell?_alloc_lt c _ _ (by show w.heap.size+1<_;omega)).trans a2;clear a0 a1 a2;obtain⟨W3,aC⟩:∃W3:World,W3=((c.alloc (Obj.cells #[.int .i64 3] 205)).alloc (.map #[] 0)).alloc (.cells #[.string A.name,.slice fa A.letters.length fc,.slice ga A.small.length gc,.func (.func 149) #[.pointer (some ⟨c.heap.size,0,none⟩)] #[],.slice none 0 0,.slice none 0 0,.map (some (c.heap.size+1))] 211):=⟨_,rfl⟩;have ez:Below c.heap.size c W3:=by rw[aC];exact((bX.alloc bW _).alloc (by simp) _).alloc (by simp;omega) _
  have gE:W3.heap.size=c.heap.size+3:=by rw[aC];simp
  have aH:Blk W3 c.heap.size #[.int .i64 ((3:Nat):Int)] 205:=by
   rw[aC];exact((Blk.new c _ _).alloc _).alloc _
  have aE:cy W3 (c.heap.size+1) ev (([]:List Arc).map dT):=by
   rw[aC];refine ch.alloc ?_ _;have:=cy.made (c.alloc (Obj.cells #[.int .i64 3] 205)) ev;rw[show(c.alloc (Obj.cells #[.int .i64 3] 205)).heap.size=c.heap.size+1 from by simp]at this;exact this
  have eT:qY W3 (c.heap.size+2) A fa ga fc gc c.heap.size (.slice none 0 0) (.slice none 0 0) (c.heap.size+1):=by
   rw[aC];have:=Blk.new ((c.alloc (Obj.cells #[.int .i64 3] 205)).alloc (.map #[] 0)) #[.string A.name,.slice fa A.letters.length fc,.slice ga A.small.length gc,.func (.func 149) #[.pointer (some ⟨c.heap.size,0,none⟩)] #[],.slice none 0 0,.slice none 0 0,.map (some (c.heap.size+1))] 211;rw[show((c.alloc (Obj.cells #[.int .i64 3] 205)).alloc (.map #[] 0)).heap.size=c.heap.size+2 from by simp]at this;exact this
  have b3:(((c.alloc (Obj.cells #[.int .i64 3] 205)).alloc (.map #[] 0)).alloc (.cells #[.string A.name,.slice fa A.letters.length fc,.slice ga A.small.length gc,.func (.func 149) #[.pointer (some ⟨c.heap.size,0,none⟩)] #[],.slice none 0 0,.slice none 0 0,.map (some (c.heap.size+1))] 211)).cell? ⟨w.heap.size,2,none⟩=some (.slice (some ⟨b,off,none⟩) R.list.length lc):=by
   rw[<-aC];exact(ez.cell (p:=⟨w.heap.size,2,none⟩) (by show w.heap.size<_;omega)).trans r2
  have H3:=bS aH aE eT;clear aH aE eT r2;have eh:=bP aC;clear aC;go_wp2_with fail;rw[<-eh.out];clear eh b0 b1 b2 b3;have HR:=bP (show∃d,d=R.list.map Rul.l from⟨_,rfl⟩);obtain⟨d,cY⟩:=HR.out;have b4:d.length=R.list.length:=by rw[cY];simp
  have bD:=bP cY;clear cY HR;go_loopw [33] (fun i wr=>∃(k:Nat) (lv av:Value) (bs:List Nat),k<=R.list.length/\i= .int .i64 k/\
   ll wr (c.heap.size+2) c.heap.size (c.heap.size+1) c.heap.size A fa ga fc gc lv av (d.take k) (cQ 3 (d.take k)) bs/\
   Blk wr c.heap.size #[.int .i64 (cK 3 (d.take k):Nat)] 205/\cy wr (c.heap.size+1) ev (([]:List Arc).map dT)/\Below c.heap.size c wr) (fun i _=>R.list.length-(intOf i).toNat)
  case atStart=>
   exact⟨0,_,_,[],zero_le _,rfl,⟨H3.out.2.2,ownsRow_nil _ _ _ _,ownsRow_nil _ _ _ _,rfl,rfl,fun k b x h=>by simp at h,fun b h=>by simp at h⟩,H3.out.1,H3.out.2.1,ez⟩
  case round=>
   obtain⟨k,lv,av,bs,hk,rfl,bJ,aH,aE,C⟩:=hrel;have an:=bP bJ;have J:=bP aH;have aa:=bP aE;clear bJ aH aE;have aS:=bd.trans (C.mono bz);have aK:=D.trans (aS.mono D.size);by_cases X:k<R.list.length
   .obtain⟨k0,k1,k2,k3⟩:=eF.out wr aK k X;obtain⟨x,aZ⟩:∃x,x=R.list[k]:=⟨_,rfl⟩;rw[<-aZ]at k0 k1 k2 k3;have Hx:=bP aZ;clear aZ;have bK:=eQ _ (getElem_mem X);rw[<-Hx.out]at bK;obtain⟨i0,fH,fQ,fS,fT⟩:=info_parts kh;obtain⟨m0,fN,fj,fk,fl⟩:=info_parts C2;go_wp2_with fail;obtain⟨W4,aD⟩:∃W4:World,W4=wr.alloc (.cells #[.string x.src,.string x.dst,.string x.nxt,.bool x.fin] 88):=⟨_,rfl⟩;rw[<-aD];have N:Below wr.heap.size wr W4:=by rw[aD];exact bX.alloc bW _
    have dM:Blk W4 wr.heap.size #[.string x.src,.string x.dst,.string x.nxt,.bool x.fin] 88:=by rw[aD];exact Blk.new _ _ _
    have eC:Chg (fun _=>False) wr W4:=Chg.ai _ N;have af:=an.out.chg J.out aa.out eC (fun k hk=>hk.elim);have az:=C.trans (N.mono C.size);have bA:=aK.trans (N.mono aK.size);refine(qJ A HV.out.2.1 x.nxt bK.2.2 (c.heap.size+2) fa ga fc gc _ W4 af.ak rfl rfl rfl ((hA.below bA bW).more bA.size)).mono ?_;rintro e Y ⟨b5,ks,rfl,gA,bw,dx,aw⟩;have dN:=dM.below aw dM.lt;have V:=J.out.below N J.out.lt;have H:cy W4 (c.heap.size+1) ev (([]:List Arc).map dT):=ch.below aa.out N (ch.lt aa.out);have aB:=af.chg V H (Chg.ai (fun _=>False) aw) (fun k hk=>hk.elim);have aA:=V.below aw V.lt;have aR:cy Y (c.heap.size+1) ev (([]:List Arc).map dT):=ch.below H aw (ch.lt H);have I:=az.trans (aw.mono az.size);have fP:b5≠c.heap.size+1:=by have:=ch.lt H;omega
    have x2:Y.cell? ⟨wr.heap.size,2,none⟩=some (.string x.nxt):=dN.cell 2;have x3:Y.cell? ⟨wr.heap.size,3,none⟩=some (.bool x.fin):=dN.cell 3;have ec:=ch.length (P:=prog) (k:=3) (e:=4) bw underlying212;simp only[length_map]at ec;have c3:Y.cell? ⟨c.heap.size+2,3,none⟩=some (.func (.func 149) #[.pointer (some ⟨c.heap.size,0,none⟩)] #[]):=Blk.cell aB.ak 3;have gD:cK 3 (d.take k)<=100:=by have:=jA 3 (d.take k);rw[length_take]at this;omega
    have q1:=sH c.heap.size (cK 3 (d.take k)) (by omega) Y aA;have T:=bS aB aA aR;have al:=bQ bw dx;clear aB aA aR bw dx af V H dM dN eC aD k0 k1 k2 k3 N;have bh:d.take (k+1)=d.take k++[x.l]:=by rw[bD.out,ix _ _ X,<-Hx.out]
    have dy:=HV.out.2.2.2.2.2 _ (getElem_mem X);have cd:=Hf.out.2.2.2.2.1 _ (getElem_mem X);rw[<-Hx.out]at dy cd;have di:(x.fin=true/\bl x.nxt=[])\/(x.fin=false/\bl x.nxt=[]/\ks=[])\/(x.fin=false/\bl x.nxt≠[]/\0<ks.length):=by
     by_cases q:bl x.nxt=[]
     .by_cases ad:x.fin=true
      .exact .inl ⟨ad,q⟩
      .refine .inr (.inl ⟨by simpa using ad,q,?_⟩);refine eq_nil_iff_forall_not_mem.2 (fun z hz=>?_);have:=(al.out.2 z).1 hz;rw[q]at this;simp[cB]at this
     .refine .inr (.inr ⟨?_,q,?_⟩)
      .have:=cd.2.2.2;cases hf:x.fin with
       |false=>rfl
       |true=>exact absurd ⟨hf,q⟩ this
      .have h1:=xz q (dy.2.2.elim (fun h=>absurd h q) (fun h=>h.1));obtain⟨z,hz⟩:=exists_mem_of_ne_nil _ h1;exact length_pos_of_mem ((al.out.2 z).2 hz)
    have aQ:=bP bh;have gJ:=bP (show∃f,f=Y from⟨_,rfl⟩);clear bh dy cd;rcases di with ⟨ad,q⟩ |⟨ad,q,eM⟩ |⟨ad,q,eM⟩;case' inl=>
     have aI:cQ 3 (d.take (k+1))=cQ 3 (d.take k)++[2]:=by rw[aQ.out,fW,if_pos (show x.l.nxt=[]from q),if_pos (show x.l.fin=true from ad)]
     have aJ:cK 3 (d.take (k+1))=cK 3 (d.take k):=by rw[aQ.out,fB,if_pos (show x.l.nxt=[]from q)]
     have cS:=bP aI;have aV:Blk Y c.heap.size #[.int .i64 (cK 3 (d.take (k+1)):Nat)] 205:=by rw[aJ];exact T.out.2.1
     have aO:=bQ aV (Chg.refl (·=c.heap.size) Y);clear aI aJ aV q q1 c3;go_upto_region 14 with (fail);obtain⟨f,O⟩:∃f,f=Y:=⟨_,rfl⟩;rw[<-O];have aN:Hid (Blk f c.heap.size #[.int .i64 (cK 3 (d.take (k+1)):Nat)] 205/\Chg (·=c.heap.size) Y f):=by rw[O];exact aO
     clear aO O
    case' inr.inl=>
     have aI:cQ 3 (d.take (k+1))=cQ 3 (d.take k)++[1]:=by rw[aQ.out,fW,if_pos (show x.l.nxt=[]from q),if_neg (show¬x.l.fin=true by rw[show x.l.fin=false from ad];decide)]
     have aJ:cK 3 (d.take (k+1))=cK 3 (d.take k):=by rw[aQ.out,fB,if_pos (show x.l.nxt=[]from q)]
     have cS:=bP aI;have aV:Blk Y c.heap.size #[.int .i64 (cK 3 (d.take (k+1)):Nat)] 205:=by rw[aJ];exact T.out.2.1
     have aO:=bQ aV (Chg.refl (·=c.heap.size) Y);subst eM;clear aI aJ aV q q1 c3;go_upto_region 14 with (fail);obtain⟨f,O⟩:∃f,f=Y:=⟨_,rfl⟩;rw[<-O];have aN:Hid (Blk f c.heap.size #[.int .i64 (cK 3 (d.take (k+1)):Nat)] 205/\Chg (·=c.heap.size) Y f):=by rw[O];exact aO
     clear aO O
    case' inr.inr=>
     have aI:cQ 3 (d.take (k+1))=cQ 3 (d.take k)++[cK 3 (d.take k)]:=by rw[aQ.out,fW,if_neg (show¬x.l.nxt=[]from q)]
     have aJ:cK 3 (d.take (k+1))=cK 3 (d.take k)+1:=by rw[aQ.out,fB,if_neg (show¬x.l.nxt=[]from q)]
     have cS:=bP aI;have en:=bP aJ;clear aI aJ q;go_upto_region 14 with (go_at_call 149;refine q1.mono ?_;rintro e f ⟨rfl,O⟩;have eo:=bP O;clear O);have aN:Hid (Blk f c.heap.size #[.int .i64 (cK 3 (d.take (k+1)):Nat)] 205/\Chg (·=c.heap.size) Y f):=by
      refine bP ?_;rw[eo.out];refine⟨?_,Chg.setCell (S:=(·=c.heap.size)) (p:=⟨c.heap.size,0,none⟩) Y (.inl rfl) _⟩;rw[en.out];exact T.out.2.1.aj 0 _
     clear eo en q1 c3
    all_goals
     have ag:=T.out.1.chg T.out.2.1 T.out.2.2 aN.out.2 (fun k hk=> .inl hk);have c6:cy f (c.heap.size+1) ev (([]:List Arc).map dT):=ch.chg T.out.2.2 aN.out.2 (fun e=>by omega);have cE:cy f b5 jO _:=ch.chg al.out.1 aN.out.2 (fun e=>Blk.ay T.out.2.1 al.out.1 e.symm);have aT:Below c.heap.size c f:=I.trans (aN.out.2.below (fun k hk=>by omega) I.size);obtain⟨fX,fY,rfl,_,_⟩:=b8.ah ag.lv;obtain⟨a7,M,rfl,_,_⟩:=b8.ah ag.av;have gR:(cQ 3 (d.take k)).length<=80:=by rw[ag.len,length_take];omega
     have gx:bs.length<=80:=by rw[ag.aP,length_take];omega
     have c4:f.cell? ⟨c.heap.size+1+1,4,none⟩=some (.slice fX (cQ 3 (d.take k)).length fY):=Blk.cell ag.ak 4;have gF:=aT.size;have H6:=bS ag c6 cE;clear ag c6 cE;go_wp2_with (at_builtin;refine wpList_append_own _ rfl _ _ 79 rfl c.heap.size 3 i0 (.int .i64 0) 1 8 underlying79 fH fQ fS fT rfl (by decide) _ _ _ rfl (H6.out.1.lv.alloc _) ⟨f.heap.size,0,none⟩ 1 1 [_] rfl rfl (by exact cell_one_new _ _ _) (by simp[Value.oneCell']) (by unfold maxLen;omega) (by omega) (by simp;omega) ?_);intro v7 w7 br aW _;obtain⟨e5,e6,rfl,_,_⟩:=b8.ah br;have dz:=(Blk.alloc H6.out.1.ak _).grown aW (fun e=>Blk.own_ne H6.out.1.ak H6.out.1.lv (by decide) e.symm);have eL:=zZ H6.out.1 br aW;have f7:=dz.frozen 4;have dA:Blk w7 (c.heap.size+1+1) _ 211:=dz;have d7:=dA.cell 4;clear c4 dz dA br aW;have H7:=bP eL;clear eL;go_upto_region 15 with (fail);obtain⟨w8,cF⟩:∃w8:World,w8=w7.setCell ⟨c.heap.size+1+1,4,none⟩ (.slice e5 ((cQ 3 (d.take k)).length+1) e6):=⟨_,rfl⟩;rw[<-cF];obtain⟨eS,eN,ey,eE⟩:=H7.out;have gK:=bP cF;have u:=bP (show qY w8 (c.heap.size+2) A fa ga fc gc c.heap.size _ _ (c.heap.size+1)/\w8.ownsRow c.heap.size 3 1 _ _ _/\w8.ownsRow c.heap.size 212 1 _ _ _/\Chg _ f w8 from by rw[cF];exact⟨eS,eN,ey,eE⟩);have c5:w8.cell? ⟨c.heap.size+1+1,5,none⟩=some (.slice a7 bs.length M):=Blk.cell u.out.1 5;have dK:f.heap.size<=w8.heap.size:=u.out.2.2.2.size;clear eS eN ey eE cF d7 f7;go_wp2_with (at_builtin;refine wpList_append_own _ rfl _ _ 209 rfl c.heap.size 212 m0 (.map none) 1 8 underlying209 fN fj fk fl rfl (by decide) _ _ _ rfl (u.out.2.2.1.alloc _) ⟨w8.heap.size,0,none⟩ 1 1 [_] rfl rfl (by exact cell_one_new _ _ _) (by simp[Value.oneCell']) (by unfold maxLen;omega) (by omega) (by simp;omega) ?_);intro v9 w9 E s _;obtain⟨fU,fV,rfl,_,_⟩:=b8.ah E;have dB:=(Blk.alloc u.out.1 _).grown s (fun e=>Blk.own_ne u.out.1 u.out.2.2.1 (by decide) e.symm);have bf:=yr u.out.1 u.out.2.1 u.out.2.2.1 u.out.2.2.2 (.inl rfl) (fun k hk=> .inr (.inr (.inl hk))) E s;have f9:=dB.frozen 5;have dC:Blk w9 (c.heap.size+1+1) _ 211:=dB;have d9:=dC.cell 5;have cw:=ll.more (x:=x.l) H6.out.1 aN.out.1 H6.out.2.1 H6.out.2.2 al.out.2 fP bf.1 bf.2.1 bf.2.2.1 bf.2.2.2;have c8:=aT.trans (bf.2.2.2.below (B:=c.heap.size) (fun k hk=>by
      rcases hk with e |e |e |e
      .omega
      .exact(H6.out.1.lv.lt _ e).1
      .exact(H6.out.1.av.lt _ e).1
      .omega) aT.size)
     have H9:=bQ cw c8;clear bf dB dC E s cw c8 c5;go_wp2_with fail;refine⟨⟨k+1,.slice e5 ((cQ 3 (d.take k)).length+1) e6,.slice fU (bs.length+1) fV,bs++[b5],by omega,by go_num,(by rw[cS.out,aQ.out];exact H9.out.1.1),H9.out.1.2.1,H9.out.1.2.2,H9.out.2⟩,by simp[intOf];omega⟩
   .obtain rfl:k=R.list.length:=by omega
    have a8:d.take R.list.length=d:=by rw[<-b4,take_length]
    have cg:=an.out;have ab:=J.out;rw[a8]at cg ab;have cU:=bP cg;have cR:=bP ab;clear cg ab an J;obtain⟨F,cX⟩:∃F,F=cQ 3 d:=⟨_,rfl⟩;obtain⟨S0,cn⟩:∃S0,S0=cK 3 d:=⟨_,rfl⟩;have gw:S0<=100:=by rw[cn];have:=jA 3 d;omega
    have an:Hid (ll wr (c.heap.size+2) c.heap.size (c.heap.size+1) c.heap.size A fa ga fc gc lv av d F bs):=by rw[cX];exact cU
    have J:Hid (Blk wr c.heap.size #[.int .i64 (S0:Nat)] 205):=by rw[cn];exact cR
    have bC:=bP cX;have cP:=bP cn;have ei:Hid (∀y∈d,y.n<=9):=by
     refine bP (fun y hy=>?_);rw[bD.out]at hy;obtain⟨z,hz,rfl⟩:=mem_map.1 hy;exact(vp (Hf.out.2.2.2.2.1 z hz)).1
    have G:=bP b4;clear cX cn cU cR a8 b4;obtain⟨⟨r0,r1,r2⟩,⟨a0,a1,a2⟩,hm⟩:=Hk.out wr aS;clear hm a0 a1 a2 r0 r1;go_wp2_with fail;clear r2;go_loopw [80] (fun i wx=>∃(k:Nat) (arcs:List Arc),k<=R.list.length/\i= .int .i64 k/\
     ll wx (c.heap.size+2) c.heap.size (c.heap.size+1) c.heap.size A fa ga fc gc lv av d F bs/\
     Blk wx c.heap.size #[.int .i64 (cM S0 (d.take k):Nat)] 205/\cy wx (c.heap.size+1) ev (arcs.map dT)/\
     (∀y,y∈arcs↔y∈dH A.bls d F S0 (d.take k) (F.take k))/\Below c.heap.size c wx) (fun i _=>R.list.length-(intOf i).toNat)
    case atStart=>exact⟨0,[],zero_le _,rfl,an.out,J.out,aa.out,fun y=>by simp[dH],C⟩
    case round=>
     clear C aS aK;obtain⟨k,arcs,hk,rfl,bJ,aH,aE,dD,C⟩:=hrel;have an:=bP bJ;have J:=bP aH;have aa:=bP aE;have cT:=bP dD;clear bJ aH aE dD;have aS:=bd.trans (C.mono bz);have aK:=D.trans (aS.mono D.size);by_cases X:k<R.list.length
     .obtain⟨k0,k1,k2,k3⟩:=eF.out wr aK k X;obtain⟨x,aZ⟩:∃x,x=R.list[k]:=⟨_,rfl⟩;rw[<-aZ]at k0 k1 k2 k3;have Hx:=bP aZ;clear aZ;have bK:=eQ _ (getElem_mem X);have cc:=vp (Hf.out.2.2.2.2.1 _ (getElem_mem X));rw[<-Hx.out]at bK cc;have bZ:F.length=d.length:=by rw[bC.out,eD]
      have dw:k<F.length:=by rw[bZ,G.out];exact X
      obtain⟨lead,aM⟩:∃lead,F[k]?=some lead:=⟨_,getElem?_eq_getElem dw⟩;have fL:lead<=10000:=by
       have h1:=mem_of_getElem? aM;rw[bC.out]at h1;have h2:=rF _ _ _ h1;rw[G.out]at h2;omega
      have fh:cM S0 (d.take k)<=10000:=by
       have h1:=sj S0 (d.take k) (fun y hy=>ei.out y (mem_of_mem_take hy));have h2:(d.take k).length<=80:=by rw[length_take,G.out];omega
       omega
      have bh:d.take (k+1)=d.take k++[x.l]:=by rw[bD.out,ix _ _ X,<-Hx.out]
      have eO:F.take (k+1)=F.take k++[lead]:=by rw[take_add_one,aM];rfl
      have bx:=oH A.bls d F S0 (d.take k) (F.take k) x.l lead (by rw[length_take,length_take,bZ]);rw[<-bh,<-eO]at bx;have Z:=pz S0 (d.take k) x.l;rw[<-bh]at Z;have cm:=bQ bx Z;have dW:=bP aM;have dZ:d.length<=80:=by rw[G.out];omega
      clear bx Z bh eO aM bZ dw;go_wp2_with fail;obtain⟨W4,aD⟩:∃W4:World,W4=wr.alloc (.cells #[.string x.src,.string x.dst,.string x.nxt,.bool x.fin] 88):=⟨_,rfl⟩;rw[<-aD];have N:Below wr.heap.size wr W4:=by rw[aD];exact bX.alloc bW _
      have af:=an.out.chg J.out aa.out (Chg.ai (fun _=>False) N) (fun k hk=>hk.elim);have V:=J.out.below N J.out.lt;have H:cy W4 (c.heap.size+1) ev (arcs.map dT):=ch.below aa.out N (ch.lt aa.out);have az:=C.trans (N.mono C.size);have bA:=aK.trans (N.mono aK.size);have fo:=az.size;clear aD k0 k1 k2 k3;refine(DR (c.heap.size+2) c.heap.size (c.heap.size+1) c.heap.size A HV.out.2.1 fa ga fc gc lv av d dZ F bs (cM S0 (d.take k)) fh arcs k lead dW.out fL x bK cc.2 cc.1 W4 af V H ⟨fo,bW,by omega⟩ ((hA.below bA bW).more (Nat.le_trans D.size bz))).mono ?_;rintro e Y ⟨rfl,⟨dX,aR,ct⟩,aA,dh⟩;have aB:=af.chg V H dh (fun k hk=>hk.elim .inl (fun e=> .inr (.inl e)));have I:=az.trans (dh.below (B:=c.heap.size) (fun k hk=>by omega) az.size);have H5:=bU aB aR ct aA I;clear af V H aB aR ct aA dh I;go_wp2_with fail;refine⟨⟨k+1,dX,by omega,by go_num,H5.out.1,(by rw[cm.out.2];exact H5.out.2.2.2.1),H5.out.2.1,(fun y=>by rw[cm.out.1,mem_append,H5.out.2.2.1,cT.out]),H5.out.2.2.2.2⟩,by simp[intOf];omega⟩
     .obtain rfl:k=R.list.length:=by omega
      have a8:d.take R.list.length=d:=by rw[<-G.out,take_length]
      have er:F.take R.list.length=F:=by rw[<-G.out,show d.length=F.length from by rw[bC.out,eD],take_length]
      have bk:=cT.out;rw[a8,er]at bk;have Z:cM S0 (d.take R.list.length)=dp d:=by rw[a8,dp,<-cP.out]
      have cu:∀y,y∈arcs↔y∈eX A.bls d:=fun y=>by rw[bk,eX,<-bC.out,<-cP.out]
      have ab:=J.out;rw[Z]at ab;have c0:wr.cell? ⟨c.heap.size,0,none⟩=some (.int .i64 (dp d:Nat)):=ab.cell 0;have bj:=bP cu;clear bk Z cu a8 er ab;go_upto_region 23 with (fail);obtain⟨W5,bc⟩:∃W5:World,W5=(wr.alloc (.cells #[.int .i64 1,.int .i64 2] 3)).alloc (.cells #[.int .i64 (dp d:Nat),.int .i64 0,.slice (some ⟨wr.heap.size,0,none⟩) 2 2,.slice none 0 0] 98):=⟨_,rfl⟩;rw[<-bc];have aw:Below wr.heap.size wr W5:=by rw[bc];exact(bX.alloc bW _).alloc (by simp) _
      have fp:W5.heap.size=wr.heap.size+2:=by rw[bc];simp
      have eJ:Blk W5 wr.heap.size #[.int .i64 1,.int .i64 2] 3:=by rw[bc];exact(Blk.new _ _ _).alloc _
      have eH:Blk W5 (wr.heap.size+1) #[.int .i64 (dp d:Nat),.int .i64 0,.slice (some ⟨wr.heap.size,0,none⟩) 2 2,.slice none 0 0] 98:=by
       rw[bc];have:=Blk.new (wr.alloc (.cells #[.int .i64 1,.int .i64 2] 3)) #[.int .i64 (dp d:Nat),.int .i64 0,.slice (some ⟨wr.heap.size,0,none⟩) 2 2,.slice none 0 0] 98;simpa using this
      have eR:=Blk.below an.out.ak aw (Blk.lt an.out.ak);have dJ:cy W5 (c.heap.size+1) ev (arcs.map dT):=ch.below aa.out aw (ch.lt aa.out);have m6:W5.cell? ⟨c.heap.size+1+1,6,none⟩=some (.map (some (c.heap.size+1))):=Blk.cell eR 6;obtain⟨o,fm,dF⟩:=ch.range (P:=prog) dJ underlying208;have bH:(arcs.map dT).map (fun v=>(v,Value.bool true))=arcs.map rj:=by rw[map_map];rfl
      rw[bH]at dF;have eU:=zr dJ;have ej:=bP eU;have I:=C.trans (aw.mono C.size);have fv:=bP (eJ.alloc o);have fu:=bP (eH.alloc o);have fw:=bP dF;have gf:=C.size;have aT:Below c.heap.size c (W5.alloc o):=I.alloc I.size _;clear bc eJ eH dJ eR dF eU bH c0 fp;go_wp2_with fail;obtain⟨t,rfl⟩:∃t:World,t=wr:=⟨_,rfl⟩;obtain⟨j0,hj,fI,fJ,fK⟩:=info_parts mn;have gM:arcs.length<=9000:=by
       have h0:=kW (l:=arcs) (m:=dH A.bls d F S0 d F) ej.out (fun y hy=>by
        have:=(bj.out y).1 hy;rw[eX,<-bC.out,<-cP.out]at this;exact this)
       have h1:=jS A.bls d F S0 d F ei.out;have h4:d.length*(d.length+10)<=80*90:=Nat.mul_le_mul (by rw[G.out];omega) (by rw[G.out];omega);omega
      clear fm m6;go_loopw [] (fun wx=>∃(r zs:List Arc) (av:Value),cx wx (c.heap.size+1) W5.heap.size ev (arcs.map rj) (zs.map rj)/\(r++zs).Perm arcs/\wx.ownsRow c.heap.size 171 4 av r.length (flat r)/\
       Blk wx (t.heap.size+1) #[.int .i64 (dp d:Nat),.int .i64 0,.slice (some ⟨t.heap.size,0,none⟩) 2 2,av] 98/\Blk wx t.heap.size #[.int .i64 1,.int .i64 2] 3/\Below c.heap.size c wx) (fun wx=>leftW wx (c.heap.size+1) W5.heap.size)
      case atStart=>exact⟨[],arcs,_,fw.out,List.Perm.refl _,ownsRow_nil _ _ _ _,fu.out,fv.out,aT⟩
      case round=>
       obtain⟨r,zs,av,eY,bt,dE,eI,eK,db⟩:=hrel;have hlen:r.length<=arcs.length:=by have:=bt.length_eq;rw[length_append]at this;omega
       have bF:=bP eY;have ck:=bP bt;have Q:=bS dE eI eK;have dL:=db.size;clear eY bt dE eI eK;obtain⟨a7,M,rfl,_,_⟩:=b8.ah Q.out.1;rcases cx.next (P:=prog) bF.out 0 with ⟨hl,aY⟩ |⟨A',p,B',w',hl,aY,dG,eG,eZ,dk⟩
       .have q:∀ty,(Instr.next (.pointer (some ⟨W5.heap.size,0,none⟩)) false ty).run prog wr= .ok (.tuple #[.bool false]) wr:=fun _=>aY;have hz:zs=[]:=map_eq_nil_iff.1 hl;have g3:wr.cell? ⟨t.heap.size+1,3,none⟩=some (.slice a7 r.length M):=Q.out.2.1.cell 3;have Hz:=bP hz;clear hl hz aY;have cD:r.Perm arcs:=by have:=ck.out;rw[Hz.out,append_nil]at this;exact this
        have gV:r.length≠0:=fun e=>by
         have h0:arcs=[]:=Perm.nil_eq (by rw[length_eq_zero_iff.1 e]at cD;exact cD) |>.symm;refine tu (L:=A.bls) (l:=d) (fun e=>?_) (eq_nil_iff_forall_not_mem.2 (fun y hy=>?_))
         .have:=G.out;rw[e]at this;simp at this;omega
         .have:=(bj.out y).2 hy;rw[h0]at this;simp at this
        obtain⟨U,rfl⟩:∃g,a7=some ⟨g,0,none⟩:=by
         have h1:=Q.out.1;obtain⟨m,hm⟩:∃m,r.length=m+1:=⟨r.length-1,by omega⟩;rw[hm]at h1;obtain⟨g,cap,e⟩:=iS h1;exact⟨g,by injection e⟩
        have ek:=bP cD;clear cD;go_wp2_with fail;refine(ef r U M c.heap.size wr (by omega) Q.out.1).mono ?_;rintro e f ⟨rfl,S,eu,ew,et,cZ,cq⟩;have fi:=Q.out.1.lt U rfl;have fG:Below c.heap.size c f:=db.trans (cq.below (fun k e=>by rw[e];exact fi.1) dL);have bG:=Q.out.2.1.chg cq (fun e=>Q.out.2.1.own_ne Q.out.1 (by decide) (by rw[<-e];rfl));have dn:=Q.out.2.2.chg cq (fun e=>Q.out.2.2.own_ne Q.out.1 (by decide) (by rw[<-e];rfl));have c7:=bd.trans (fG.mono bz);have O:=D.trans (c7.mono D.size);obtain⟨_,_,hm⟩:=Hk.out f c7;have bg:Blk f (w.heap.size+3) #[.int .i64 0,.int .i64 0,.slice none 0 0,.slice none 0 0] 98:=hm;have m0:f.cell? ⟨w.heap.size+3,0,none⟩=some (.int .i64 0):=bg.cell 0;have m1:f.cell? ⟨w.heap.size+3,1,none⟩=some (.int .i64 0):=bg.cell 1;have m2:f.cell? ⟨w.heap.size+3,2,none⟩=some (.slice none 0 0):=bg.cell 2;have m3:f.cell? ⟨w.heap.size+3,3,none⟩=some (.slice none 0 0):=bg.cell 3;have f0:∀j,f.frozen? ⟨w.heap.size+3,j,none⟩=false:=fun j=>bg.frozen j;have g0:f.cell? ⟨t.heap.size+1,0,none⟩=some (.int .i64 (dp d:Nat)):=bG.cell 0;have g1:f.cell? ⟨t.heap.size+1,1,none⟩=some (.int .i64 0):=bG.cell 1;have g2:f.cell? ⟨t.heap.size+1,2,none⟩=some (.slice (some ⟨t.heap.size,0,none⟩) 2 2):=bG.cell 2;have gL:f.cell? ⟨t.heap.size+1,3,none⟩=some (.slice (some ⟨U,0,none⟩) r.length M):=bG.cell 3;have eP:U≠w.heap.size+3/\t.heap.size≠w.heap.size+3:=by omega
        have bE:=bS eP (yX cZ) eu;have cv:∀y,y∈S↔y∈eX A.bls d:=fun y=>by rw[ew,ek.out.mem_iff,bj.out]
        have du:=et (ek.out.nodup_iff.2 ej.out);obtain⟨_,_,e,_,eW⟩:=b8.ah cZ;injection e with e1 _ e3;subst e1 e3;have eV:b8 f f.heap.size (some ⟨t.heap.size,0,none⟩) (nums [1,2]):=fun _=>by
         refine⟨_,0,rfl,dn.lt,fun i x hx=>?_⟩;rw[Nat.zero_add,dn.cell i];simpa [nums]using hx
        have HF:=bT du cv eW eV;clear hm bg eP cv du eW eV eu ew et cZ bG dn g3 cq;go_wp2;refine bodyPost_ret (v:= .tuple #[.agg #[.int .i64 (dp d:Nat),.int .i64 0,.slice (some ⟨t.heap.size,0,none⟩) 2 2,.slice (some ⟨U,0,none⟩) r.length M],.int .i64 0]) (by simp[results,results91,go_sem,m0,m1,m2,m3]) rfl ?_;have da:=(((O.setCell (p:=⟨w.heap.size+3,0,none⟩) (by simp) (.int .i64 (dp d:Nat))).setCell (p:=⟨w.heap.size+3,1,none⟩) (by simp) (.int .i64 0)).setCell (p:=⟨w.heap.size+3,2,none⟩) (by simp) (.slice (some ⟨t.heap.size,0,none⟩) 2 2)).setCell (p:=⟨w.heap.size+3,3,none⟩) (by simp) (.slice (some ⟨U,0,none⟩) r.length M);have hS:=HF.out.2.2.1;have bq:∀bb o,some (⟨U,0,none⟩:Addr)=some ⟨bb,o,none⟩->bb≠w.heap.size+3:=fun bb o e=>by
         have e2:U=bb:=by injection e with e;injection e
         rw[<-e2];exact bE.out.1.1
        have bm:∀bb o,some (⟨t.heap.size,0,none⟩:Addr)=some ⟨bb,o,none⟩->bb≠w.heap.size+3:=fun bb o e=>by
         have e2:t.heap.size=bb:=by injection e with e;injection e
         rw[<-e2];exact bE.out.1.2
        have ed:=(((hS.set (p:=⟨w.heap.size+3,0,none⟩) bq (.int .i64 (dp d:Nat))).set (p:=⟨w.heap.size+3,1,none⟩) bq (.int .i64 0)).set (p:=⟨w.heap.size+3,2,none⟩) bq (.slice (some ⟨t.heap.size,0,none⟩) 2 2)).set (p:=⟨w.heap.size+3,3,none⟩) bq (.slice (some ⟨U,0,none⟩) r.length M);have ee:=(((HF.out.2.2.2.set (p:=⟨w.heap.size+3,0,none⟩) bm (.int .i64 (dp d:Nat))).set (p:=⟨w.heap.size+3,1,none⟩) bm (.int .i64 0)).set (p:=⟨w.heap.size+3,2,none⟩) bm (.slice (some ⟨t.heap.size,0,none⟩) 2 2)).set (p:=⟨w.heap.size+3,3,none⟩) bm (.slice (some ⟨U,0,none⟩) r.length M);refine⟨_,⟨(dp d:Nat),0,[1,2],S⟩,0,rfl,⟨_,2,some ⟨U,0,none⟩,M,(by show _=Value.agg #[_,_,_,.slice _ S.length _];rw[bE.out.2.2];rfl),by unfold maxLen;simp,(by show S.length<=_;rw[bE.out.2.2];exact bE.out.2.1),ee.more (by simp),ed.more (by simp)⟩,da,fun h=>absurd HV.out h,fun _=>⟨rfl,⟨?_,rfl,rfl,HF.out.1,?_⟩⟩⟩
        .rw[bD.out]
        .intro y;rw[<-bD.out];exact HF.out.2.1 y
       .obtain⟨za,z,zb,e4,rfl,rfl,rfl⟩:=Az hl;have q:∀ty,(Instr.next (.pointer (some ⟨W5.heap.size,0,none⟩)) false ty).run prog wr= .ok (.tuple #[.bool true,.agg #[.int .i64 z.frm,.int .i64 z.inp,.int .i64 z.out,.int .i64 z.to],.bool true]) w':=fun _=>aY;have ea:(Instr.entry (.pointer (some ⟨W5.heap.size,0,none⟩))).run prog w'= .ok (.tuple #[.agg #[.int .i64 z.frm,.int .i64 z.inp,.int .i64 z.out,.int .i64 z.to],.bool true]) w':=dk;have ep:=bP e4;have bO:=bP dG;have cj:=bP eG;have fx:=bP eZ;clear hl dk e4 dG eG aY eZ;go_upto_region 26 with (fail);obtain⟨W8,cp⟩:∃W8:World,W8=w'.alloc (.cells #[.int .i64 z.frm,.int .i64 z.inp,.int .i64 z.out,.int .i64 z.to] 171):=⟨_,rfl⟩;rw[<-cp];have bN:Blk W8 w'.heap.size #[.int .i64 z.frm,.int .i64 z.inp,.int .i64 z.out,.int .i64 z.to] 171:=by rw[cp];exact Blk.new _ _ _
        have cz:=Q.out.1.kept cj.out (.inr (fun e=>cx.bp bF.out Q.out.1 e));have b7:=Q.out.2.1.grown cj.out (fun e=>cx.aG bF.out Q.out.2.1 (by injection e));have ca:=Q.out.2.2.grown cj.out (fun e=>cx.aG bF.out Q.out.2.2 (by injection e));have be:Below w'.heap.size w' W8:=by rw[cp];exact bX.alloc bW _
        have cA:W8.ownsRow c.heap.size 171 4 (.slice a7 r.length M) r.length (flat r):=cJ cz be;have b9:=b7.below be b7.lt;have dq:=ca.below be ca.lt;have aX:=cx.below bO.out be (ch.lt (cx.isMap bO.out)) (cx.lt bO.out);have dc:Below c.heap.size c W8:=(db.grown cj.out dL (fun j hj=>by cases hj;exact I.size)).trans (be.mono (by have:=fx.out;omega));have z0:W8.cell? ⟨w'.heap.size,0,none⟩=some (.int .i64 z.frm):=bN.cell 0;have z1:W8.cell? ⟨w'.heap.size,1,none⟩=some (.int .i64 z.inp):=bN.cell 1;have z2:W8.cell? ⟨w'.heap.size,2,none⟩=some (.int .i64 z.out):=bN.cell 2;have z3:W8.cell? ⟨w'.heap.size,3,none⟩=some (.int .i64 z.to):=bN.cell 3;have g3:W8.cell? ⟨t.heap.size+1,3,none⟩=some (.slice a7 r.length M):=b9.cell 3;have dK:=dc.size;have u:=bT cA b9 dq aX;clear cp bN cz b7 ca be cA b9 dq aX q ea;go_wp2_with (at_builtin;refine wpList_append_own _ rfl _ _ 96 rfl c.heap.size 171 j0 _ 4 32 underlying96 hj fI fJ fK rfl (by decide) _ _ _ rfl (u.out.1.alloc _) ⟨W8.heap.size,0,none⟩ 1 1 z.cells rfl rfl (by exact dQ W8 z.cells 171) (by simp[Arc.cells,Value.oneCell']) (by unfold maxLen;omega) (by omega) (by simp;omega) ?_);intro v9 w9 E s _;obtain⟨a9,c9,rfl,_,_⟩:=b8.ah E;have ae:=(u.out.2.1.alloc _).grown s (fun e=>u.out.2.1.own_ne u.out.1 (by decide) e.symm);have ds:=(u.out.2.2.1.alloc _).grown s (fun e=>u.out.2.2.1.own_ne u.out.1 (by decide) e.symm);have aX:=cx.below u.out.2.2.2 ((Below.refl _ W8).alloc bW (.cells z.cells.toArray 171)) (ch.lt (cx.isMap u.out.2.2.2)) (cx.lt u.out.2.2.2);have bu:=cx.grown aX s (fun e=>j2 u.out.1 (cx.isMap u.out.2.2.2) e.symm) (fun e=>cx.bp u.out.2.2.2 u.out.1 e.symm);have dd:Below c.heap.size c w9:=(dc.alloc dK _).grown s (by simp;omega) (fun j hj=>(u.out.1.lt j hj).1);have f9:=ae.frozen 3;have d9:=ae.cell 3;have dm:=ae.aj 3 (.slice a9 (r.length+1) c9);have dt:=ds.far (p:=⟨t.heap.size+1,3,none⟩) (by show t.heap.size≠t.heap.size+1;omega) (.slice a9 (r.length+1) c9);have dI:=cx.setCell bu (p:=⟨t.heap.size+1,3,none⟩) (fun e=>Blk.ay ae (cx.isMap bu) e) (fun e=>cx.aG bu ae e) (.slice a9 (r.length+1) c9);have cC:=cV E (p:=⟨t.heap.size+1,3,none⟩) (fun e=>ae.own_ne E (by decide) e) (.slice a9 (r.length+1) c9);have de:=dd.setCell (p:=⟨t.heap.size+1,3,none⟩) (by show c.heap.size<=t.heap.size+1;omega) (.slice a9 (r.length+1) c9);have bI:(r++[z]++(za++zb)).Perm arcs:=by
         refine Perm.trans ?_ ck.out;rw[ep.out,show r++[z]++(za++zb)=r++(z::(za++zb))from by simp];exact(perm_middle (l₁:=za) (a:=z) (l₂:=zb)).symm.append_left r
        have HN:=bV dm dt dI cC de bI;clear dm dt dI cC de bI ae ds aX bu dd E s g3 z0 z1 z2 z3;go_wp2_with fail;have cf:=HN.out.2.2.1;rw[<-map_append]at cf;refine⟨⟨r++[z],za++zb,.slice a9 (r.length+1) c9,cf,HN.out.2.2.2.2.2,?_,HN.out.1,HN.out.2.1,HN.out.2.2.2.2.1⟩,?_⟩
        .rw[fR,length_append];have:=HN.out.2.2.2.1;simpa [flat]using this
        .rw[cx.leftW cf,cx.leftW bF.out,ep.out];simp
 .rw[decide_eq_false hv];clear a0 a1 a2 r0 r1 r2;have da:=(((fg.setCell (p:=⟨w.heap.size+3,0,none⟩) (by simp) (.int .i64 0)).setCell (p:=⟨w.heap.size+3,1,none⟩) (by simp) (.int .i64 0)).setCell (p:=⟨w.heap.size+3,2,none⟩) (by simp) (.slice none 0 0)).setCell (p:=⟨w.heap.size+3,3,none⟩) (by simp) (.slice none 0 0);clear fO;go_wp2;refine bodyPost_ret (v:= .tuple #[.agg #[.int .i64 0,.int .i64 0,.slice none 0 0,.slice none 0 0],.int .i64 1]) (by simp[results,results91,go_sem,m0,m1,m2,m3]) rfl ?_;refine⟨_,⟨0,0,[],[]⟩,1,rfl,⟨none,0,none,0,rfl,by simp,by simp,fun h=>by simp[nums]at h,fun h=>by simp[flat]at h⟩,da,fun _=>⟨rfl,rfl⟩,fun h=>absurd h hv⟩
end
end Go.Proofs.YtmhdgddjeadjjaaGreatDoor
