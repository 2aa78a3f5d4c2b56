/- W13b -/
import Derived.Test.YtmhdgddjeadjjaaGreatDoorP16
import Derived.Test.YtmhdgddjeadjjaaGreatDoorP18
namespace Go.Proofs.YtmhdgddjeadjjaaGreatDoor
open _root_.List Go.Lib _root_.Nat Go.World _root_.Int Go.Proofs.Tryz
variable {xs:List Value}
section
open Go.RowKit Classical
theorem oK {P:Program}(t e:TypeId)(i:TypeInfo)(z:Value)(k:P.underlying t=some (.slice e))(j:P.info? e=some i)(l:i.zero=some z)
  (f d:IntKind)(n c:Nat)(o:n<=c)(a:i.bytes*c<=281474976710656)(m:c<=9223372036854775807)(w:World):
  (Instr.makeSlice t (.int f (n:Int)) (.int d (c:Int))).run P w= .ok (.slice (some ⟨w.heap.size,0,none⟩) n c) (w.alloc (.cells (madeCells z.cells (c*i.size)) e)):=by
 have g:(i.bytes:Int)*(c:Int)<=281474976710656:=by
  have h:((i.bytes*c:Nat):Int)<=281474976710656:=by omega
  rwa [natCast_mul]at h
 have b:=run_make (P:=P) w t e i z k j l f d n c (by omega) (by omega) g (by omega);simp only[toNat_natCast]at b;exact b
def ed (l:List Nat):List Value:=l.map fun n:Nat=>Value.int .i64 (n:Int)
theorem jZ (a b:List Nat):ed (a++b)=ed a++ed b:=by simp[ed]
theorem fT (l:List Nat)(i:Nat)(n:Nat)(h:l[i]?=some n):(ed l)[i]?=some (.int .i64 (n:Int)):=by simp[ed,h]
theorem uk (T:List Nat)(n k v:Nat)(b:T.length=k)(hk:k<n):(ed (T++replicate (n-k) 0)).set k (.int .i64 (v:Int))=ed (T++[v]++replicate (n-(k+1)) 0):=by
 obtain⟨m,hm⟩:∃m,n-k=m+1:=⟨n-k-1,by omega⟩;have a:n-(k+1)=m:=by omega
 subst b;rw[hm,a,jZ,replicate_succ,set_append_right _ _ (by simp[ed])];simp[ed]
theorem ix (l:List Rul)(k:Nat)(h:k<l.length):(l.map Rul.l).take (k+1)=(l.map Rul.l).take k++[l[k].l]:=by
 rw[take_add_one];simp[h]
theorem oJ (z:Value)(n:Nat):madeCells #[z] n=Array.replicate n z:=by
 apply Array.ext
 .simp[madeCells]
 .intro i h1 a;simp[madeCells,mod_one]
def eQ (x:db)(base lead:Nat)(a:List Nat)(j:Nat):List Arc:=
 if j=0 then [] else (a.map fun s:Nat=>eI x base lead 0 (s:Int))++(range (j-1)).map fun j:Nat=>eI x base lead (j+1) ((base:Int)+(j:Int))
theorem vk (x:db)(b l:Nat)(s:List Nat)(j:Nat):(eQ x b l s j).length<=s.length+j:=by
 unfold eQ;split
 .simp
 .simp
theorem sQ (x:db)(b l:Nat)(s:List Nat)(p:Nat):eQ x b l s (p+1+1)=eQ x b l s (p+1)++[eI x b l (p+1) ((b:Int)+(p:Int))]:=by
 simp only[eQ,succ_ne_zero,if_false,Nat.add_sub_cancel,range_succ,map_append,append_assoc];simp
theorem tD (x:db)(b l:Nat)(s:List Nat):eQ x b l s 1=s.map fun s:Nat=>eI x b l 0 (s:Int):=by simp[eQ]
theorem tC (x:db)(b l:Nat)(s:List Nat)(h:1<=x.n):eQ x b l s x.n=gG x b l s:=by
 unfold eQ gG;rw[if_neg (by omega)]
theorem vf {α β:Type}(l:List α)(f:α->β)(k:Nat)(h:k<l.length):(l.take (k+1)).map f=(l.take k).map f++[f l[k]]:=by
 rw[take_add_one,getElem?_eq_getElem h,map_append];rfl
theorem b8.set {w:World}{B:Nat}{a:Option Addr}(h:b8 w B a xs){p:Addr}(c:∀b o,a=some ⟨b,o,none⟩->b≠p.block)(u:Value):b8 (w.setCell p u) B a xs:=fun k=>by
 obtain⟨b,off,e,f,g⟩:=h k;exact⟨b,off,e,f,fun i x j=>(cell?_setCell_other w p ⟨b,off+i,none⟩ u (fun d=>c b off e (by rw[d]))).trans (g i x j)⟩
theorem yX {w:World}{base:Nat}{e:TypeId}{size n:Nat}{v:Value}(h:w.ownsRow base e size v n xs):n<=maxLen:=by
 rcases h.2 with ⟨_,rfl⟩ |⟨g,cap,cur,_,_,_,h1,a,_⟩
 .exact zero_le _
 .exact Nat.le_trans h1 a
theorem Ah (L:List (List UInt8)):∀(f:Nat) (t:List UInt8) (o:Nat) (acc:List Int),(dc L f t o acc).err=0->acc.length<=(dc L f t o acc).letters.length:=by
 intro f;induction f with
 |zero=>
  intro t o acc h;rw[dc]at h⊢;split
  .exact bW
  .rename_i a;rw[if_neg a]at h;split at h<;>simp at h
 |succ f b=>
  intro t o acc h;rw[dc]at h⊢;split
  .exact bW
  .rename_i a;rw[if_neg a]at h;split at h
   .simp at h
   .rename_i k hk;have:=b _ _ _ h;rw[length_append]at this;simp at this⊢;omega
theorem xz {L:List (List UInt8)}{t:List UInt8}(a:t≠[])(h:(cB L t).err=0):(cB L t).letters≠[]:=by
 rw[cB,if_neg a]at h⊢;rw[dc,if_neg a]at h⊢;split at h
 .simp at h
 .rename_i k hk;have:=Ah _ _ _ _ _ h;intro e;rw[e]at this;simp at this
theorem vp {x:Rul}(h:x.ok):x.l.n<=9/\1<=x.l.n:=by
 have h1:=h.1.2;have a:=h.2.1.2;unfold db.n;rw[show x.l.src=bl x.src from rfl,show x.l.dst=bl x.dst from rfl,b9,b9];omega
theorem zY {wr k:World}{B u t g n m:Nat}{av v' y:Value}{A:List Value}{z:Array Value}{f a b c:Value}(x:wr.ownsRow B 171 4 av n xs)(l:wr.ownsRow u 3 1 y m A)
  (C:Blk wr t z 88)(q:Blk wr g #[f,a,b,c] 171)(i:av.ownBlock≠some g)(hk:t≠g)(v:Value)(O:Obj)
  (d:((wr.setCell ⟨g,0,none⟩ v).alloc O).grownBy k av.ownBlock)(r:v'.ownBlock=av.ownBlock\/v'.ownBlock=some (wr.heap.size+1)):
  k.ownsRow u 3 1 y m A/\Blk k t z 88/\Blk k g #[v,a,b,c] 171/\v'.ownBlock≠some g:=by
 have j:=(cV x (p:=⟨g,0,none⟩) i v).alloc O;have s:=(cV l (p:=⟨g,0,none⟩) (fun e=>q.own_ne l (by decide) e) v).alloc O;have o:=(C.far (p:=⟨g,0,none⟩) hk v).alloc O;have w:=(q.aj 0 v).alloc O;refine⟨dK s j (by decide) d,o.grown d (fun e=>o.own_ne j (by decide) e.symm),w.grown d (fun e=>i e.symm),?_⟩;have D:=q.lt;rcases r with e |e
 .rw[e];exact i
 .rw[e];simp;omega
structure gV (R:dj)(A:cr)(M:cu):Prop where
 ag:M.ag=dp (R.list.map Rul.l)
 start:M.start=0
 final:M.final=[1,2]
 inc:cR M.arcs
 mem:∀y,y∈M.arcs↔y∈eX A.bls (R.list.map Rul.l)
def mT (ok:Prop)(R:dj)(A:cr)(w:World)(e:Ending)(w':World):Prop:=
 ∃v M err,e= .returned (.tuple #[v,.int .i64 err])/\dx w' w'.heap.size v M/\Below w.heap.size w w'/\(¬ok->err=1/\M=⟨0,0,[],[]⟩)/\(ok->err=0/\gV R A M)
set_option maxRecDepth 100000
set_option maxHeartbeats 4000000
theorem uS (R:dj)(A B:cr)(v va vb:Value)(w:World)(h:dY w w.heap.size v R)(ha:cH w w.heap.size va A)(hb:cH w w.heap.size vb B):
  Calls prog 173 #[v,va,vb] w (mT (dr R A B) R A w):=by
 have hR:=h;have hA:=ha;have hB:=hb;obtain⟨la,lc,rfl,gm,bz,eU,dz,hl⟩:=h;obtain⟨fa,fc,ga,gc,rfl,hn,gg,gn,gh,gd,gf⟩:=ha;obtain⟨eB,eC,eE,eF,rfl,gi,cn,gp,fH,fE,fF⟩:=hb;obtain⟨i0,hi,dO,fh,dP⟩:=info_parts kh;unfold maxLen at eU;go_enter func173,ntmps173;go_wp2_with fail;generalize au:((((w.alloc _).alloc _).alloc _).alloc _)=U;have G:Below w.heap.size w U:=by rw[<-au];exact(((bX.alloc bW _).alloc (by simp) _).alloc (by simp;omega) _).alloc (by simp;omega) _
 have gr:U.heap.size=w.heap.size+4:=by rw[<-au];simp
 have dq:Box U w.heap.size [Value.string R.src,.string R.dst,.slice la R.list.length lc]:=by
  rw[<-au];exact(((Box.new _ _ _).alloc (by simp) _).alloc (by simp;omega) _).alloc (by simp;omega) _
 have dm:Box U (w.heap.size+1) [Value.string A.name,.slice fa A.letters.length fc,.slice ga A.small.length gc]:=by
  rw[<-au];have:=(Box.new (w.alloc (.cells #[Value.string R.src,.string R.dst,.slice la R.list.length lc] 91)) [Value.string A.name,.slice fa A.letters.length fc,.slice ga A.small.length gc] 83);simp at this;exact(this.alloc (by simp) _).alloc (by simp) _
 have dn:U.heap[w.heap.size+3]?=some (.cells #[.int .i64 0,.int .i64 0,.slice none 0 0,.slice none 0 0] 98 (0,0)):=by
  rw[<-au,show w.heap.size+3=(((w.alloc (.cells #[Value.string R.src,.string R.dst,.slice la R.list.length lc] 91)).alloc (.cells #[Value.string A.name,.slice fa A.letters.length fc,.slice ga A.small.length gc] 83)).alloc (.cells #[Value.string B.name,.slice eB B.letters.length eC,.slice eE B.small.length eF] 83)).heap.size from by simp];exact heap_alloc_new _ _
 clear au;have Hk:=bP (fun wr (F:Below U.heap.size U wr)=>And.intro (dq.below F (by omega)).c3 (And.intro (dm.below F (by omega)).c3 ((F.block (w.heap.size+3) (by omega)).trans dn)));clear dq dm dn;refine(qT R A B _ _ _ _ ((hR.below G bW).more G.size) ((hA.below G bW).more G.size) ((hB.below G bW).more G.size)).mono ?_;rintro e L ⟨rfl,aM⟩;have ec:=G.trans (aM.mono G.size);obtain⟨⟨r0,r1,r2⟩,⟨a0,a1,a2⟩,hm⟩:=Hk.out L aM;have m0:L.cell? ⟨w.heap.size+3,0,none⟩=some (.int .i64 0):=cell_of_row _ _ 0 _ _ _ hm;have m1:L.cell? ⟨w.heap.size+3,1,none⟩=some (.int .i64 0):=cell_of_row _ _ 1 _ _ _ hm;have m2:L.cell? ⟨w.heap.size+3,2,none⟩=some (.slice none 0 0):=cell_of_row _ _ 2 _ _ _ hm;have m3:L.cell? ⟨w.heap.size+3,3,none⟩=some (.slice none 0 0):=cell_of_row _ _ 3 _ _ _ hm;have f0:∀j,L.frozen? ⟨w.heap.size+3,j,none⟩=false:=fun j=>by simp[frozen?,hm]
 by_cases hv:dr R A B
 .rw[decide_eq_true hv];have hf:=hv.1;have dB:=hf.2.2.1;have fJ:=hf.2.2.2.1;have eW:=fun W=>oK (P:=prog) 79 3 i0 (.int .i64 0) underlying79 hi dO .i64 .i64 R.list.length R.list.length bW (by rw[dP];omega) (by omega) W;obtain⟨b,off,rfl,hb,hc⟩:=hl.aU (by omega);have ck:=bP (fun wr (F:Below w.heap.size w wr) i (hi:i<R.list.length)=>
   (And.intro ((F.cell (p:=⟨b,off+i*4,none⟩) hb).trans (hc i hi).1) (And.intro ((F.cell (p:=⟨b,off+i*4+1,none⟩) hb).trans (hc i hi).2.1)
    (And.intro ((F.cell (p:=⟨b,off+i*4+2,none⟩) hb).trans (hc i hi).2.2.1) ((F.cell (p:=⟨b,off+i*4+3,none⟩) hb).trans (hc i hi).2.2.2)))))
  have HV:=bP hv;have Hf:=bP hf;clear hc hv hf m0 m1 m2 m3 f0 hm a0 a1 a2;go_wp2_with fail;generalize b6:(L.alloc _)=W2;have eK:Below U.heap.size U W2:=by rw[<-b6];exact aM.alloc aM.size _
  have ar:W2.ownsRow U.heap.size 3 1 (.slice (some ⟨L.heap.size,0,none⟩) R.list.length R.list.length) R.list.length (ed (cQ 3 ((R.list.map Rul.l).take 0)++replicate (R.list.length-0) 0)):=by
   have:=ownsRow_lit (base:=U.heap.size) (e:=3) (size:=1) L (madeCells #[.int .i64 0] (R.list.length*1)) R.list.length aM.size (by unfold maxLen;omega) (by simp[madeCells]);rw[<-b6];have e:(madeCells #[.int .i64 0] (R.list.length*1)).toList=ed (cQ 3 ((R.list.map Rul.l).take 0)++replicate (R.list.length-0) 0):=by
    rw[oJ];simp[cQ,ed]
   rw[e]at this;simpa only[Nat.mul_one]using this
  have dU:=bP ar;clear eW b6 ar r0 r1 r2;go_loopw [9,10] (fun st i wr=>∃k:Nat,k<=R.list.length/\i= .int .i64 k/\st= .int .i64 (cK 3 ((R.list.map Rul.l).take k):Nat)/\
   wr.ownsRow U.heap.size 3 1 (.slice (some ⟨L.heap.size,0,none⟩) R.list.length R.list.length) R.list.length (ed (cQ 3 ((R.list.map Rul.l).take k)++replicate (R.list.length-k) 0))/\Below U.heap.size U wr) (fun _ i _=>R.list.length-(intOf i).toNat)
  case atStart=>exact⟨0,zero_le _,rfl,rfl,dU.out,eK⟩
  case round=>
   obtain⟨k,hk,rfl,rfl,ar,F⟩:=hrel;have V:=bP ar;clear ar;have fe:=G.trans (F.mono G.size);obtain⟨⟨r0,r1,r2⟩,⟨a0,a1,a2⟩,hm⟩:=Hk.out wr F;clear hm;by_cases J:k<R.list.length
   .obtain⟨k0,k1,k2,k3⟩:=ck.out wr fe k J;have aP:U.heap.size<=L.heap.size:=(V.out.lt L.heap.size rfl).1;have b5:(cQ 3 ((R.list.map Rul.l).take k)).length=k:=by rw[eD,length_take,length_map];omega
    have z0:wr.cell? ⟨L.heap.size,k,none⟩=some (.int .i64 0):=by
     rw[V.out.cellAt k (by omega)];refine fT _ _ 0 ?_;rw[getElem?_append_right (by omega),b5,Nat.sub_self,getElem?_replicate,if_pos (by omega)]
    have f0:=V.out.frozenAt k;have bY:=bP (fun(u:Value)=>(V.out.stored k u).1);have aW:=bP (fun v=>uk (cQ 3 ((R.list.map Rul.l).take k)) R.list.length k v b5 J);have dG:=jA 3 ((R.list.map Rul.l).take k);have fL:cK 3 ((R.list.map Rul.l).take k)<=100:=by rw[length_take,length_map]at dG;omega
    generalize cN:cK 3 ((R.list.map Rul.l).take k)=st at *;have bd:=bP cN;clear b5 dG cN;by_cases aD:R.list[k].fin=true
    .by_cases H:bl R.list[k].nxt=[]
     .have e1:=iw H;have E:=bP (show R.list[k].l.fin=true/\R.list[k].l.nxt=[]from⟨aD,H⟩);clear H;go_wp2;refine⟨⟨k+1,by omega,by go_num,?_,?_,(F.setCell (p:=⟨L.heap.size,k,none⟩) aP _).setCell (p:=⟨L.heap.size,k,none⟩) aP _⟩,by simp[intOf];omega⟩
      .rw[ix _ _ J,fB,if_pos E.out.2,bd.out]
      .have:=(((bY.out (.int .i64 1))).stored k (.int .i64 2)).1;rw[set_set]at this;have h3:=aW.out 2;rw[ix _ _ J,fW,if_pos E.out.2,if_pos E.out.1];exact h3▸this
     .exact absurd ⟨aD,H⟩ (Hf.out.2.2.2.2.1 _ (getElem_mem J)).2.2.2
    .have c0:R.list[k].fin=false:=by simpa using aD
     clear aD;by_cases H:bl R.list[k].nxt=[]
     .have e1:=iw H;have E:=bP (show R.list[k].l.fin=false/\R.list[k].l.nxt=[]from⟨c0,H⟩);clear H;go_wp2;refine⟨⟨k+1,by omega,by go_num,?_,?_,F.setCell (p:=⟨L.heap.size,k,none⟩) aP _⟩,by simp[intOf];omega⟩
      .rw[ix _ _ J,fB,if_pos E.out.2,bd.out]
      .have:=bY.out (.int .i64 1);have h3:=aW.out 1;rw[ix _ _ J,fW,if_pos E.out.2,E.out.1];exact h3▸this
     .have e1:=ic H;have E:=bP (show R.list[k].l.nxt≠[]from H);clear H;go_wp2;refine⟨⟨k+1,by omega,by go_num,?_,?_,(F.setCell (p:=⟨L.heap.size,k,none⟩) aP _).setCell (p:=⟨L.heap.size,k,none⟩) aP _⟩,by simp[intOf];omega⟩
      .rw[ix _ _ J,fB,if_neg E.out,bd.out];go_num
      .have:=(((bY.out (.int .i64 1))).stored k (.int .i64 (st:Nat))).1;rw[set_set]at this;have h3:=aW.out st;rw[ix _ _ J,fW,if_neg E.out,bd.out];exact h3▸this
   .obtain rfl:k=R.list.length:=by omega
    have bf:=V.out;have hlen:(R.list.map Rul.l).length=R.list.length:=by simp
    rw[<-hlen,vd,hlen,Nat.sub_self,replicate_zero,append_nil]at bf;have gb:=jA 3 ((R.list.map Rul.l));have dh:cK 3 ((R.list.map Rul.l).take R.list.length)=cK 3 (R.list.map Rul.l):=by rw[<-hlen,take_length]
    rw[dh];generalize dk:R.list.map Rul.l=d at *;generalize b4:cK 3 d=C at *;have aJ:=bP dk;have dc:=bP b4;obtain⟨r,aZ⟩:∃r,r=cQ 3 d:=⟨_,rfl⟩;rw[<-aZ]at bf;have da:=bP bf;have Z:=bP aZ;have D:=bP hlen;clear dk b4 bf aZ dh hlen;obtain⟨M,rfl⟩:∃M:World,M=wr:=⟨_,rfl⟩;have bV:Hid (∀y∈d,y.n<=9):=by
     intro y hy;rw[<-aJ.out]at hy;obtain⟨z,hz,rfl⟩:=mem_map.1 hy;exact(vp (Hf.out.2.2.2.2.1 z hz)).1
    go_wp2_with fail;go_loopw [9,11,12] (fun st av i wr=>∃k:Nat,k<=R.list.length/\i= .int .i64 k/\st= .int .i64 (cM C (d.take k):Nat)/\
     wr.ownsRow M.heap.size 171 4 av (dH A.bls d r C (d.take k) (r.take k)).length (flat (dH A.bls d r C (d.take k) (r.take k)))/\Below M.heap.size M wr) (fun _ _ i _=>R.list.length-(intOf i).toNat)
    case atStart=>exact⟨0,zero_le _,rfl,rfl,ownsRow_nil _ _ _ _,bX⟩
    case round=>
     obtain⟨k,hk,rfl,rfl,bx,an⟩:=hrel;have Ha:=bP bx;clear bx;have aC:=F.trans (an.mono F.size);have ff:=G.trans (aC.mono G.size);obtain⟨⟨r0,r1,r2⟩,⟨a0,a1,a2⟩,hm⟩:=Hk.out wr aC;clear hm;by_cases J:k<R.list.length
     .obtain⟨k0,k1,k2,k3⟩:=ck.out wr ff k J;obtain⟨x,cS⟩:∃x,x=R.list[k]:=⟨_,rfl⟩;rw[<-cS]at k0 k1 k2 k3;have Hx:=bP cS;clear cS;go_upto_region 20 with (fail);have dI:=an.size;obtain⟨W3,aw⟩:∃W3:World,W3=(wr.alloc (.cells #[.string x.src,.string x.dst,.string x.nxt,.bool x.fin] 88)).alloc (.cells #[.int .i64 0,.int .i64 1] 3):=⟨_,rfl⟩;rw[<-aw];have eL:Below wr.heap.size wr W3:=by rw[aw];exact(bX.alloc bW _).alloc (by simp) _
      have fM:W3.heap.size=wr.heap.size+2:=by rw[aw];simp
      have dL:Blk W3 wr.heap.size #[.string x.src,.string x.dst,.string x.nxt,.bool x.fin] 88:=by rw[aw];exact(Blk.new _ _ _).alloc _
      have cF:W3.ownsRow wr.heap.size 3 1 (.slice (some ⟨wr.heap.size+1,0,none⟩) 2 2) 2 (ed (0::1::di A.bls x.l (d.take 0) (r.take 0))):=by
       have:=ownsRow_lit (base:=wr.heap.size) (e:=3) (size:=1) (wr.alloc (.cells #[.string x.src,.string x.dst,.string x.nxt,.bool x.fin] 88)) #[.int .i64 0,.int .i64 1] 2 (by simp) (by unfold maxLen;omega) rfl;rw[aw];simpa [di,ed]using this
      have dV:=bP cF;have ez:=bP dL;clear cF dL aw k0 k1 k2 k3 r0 r1 r2 a0 a1 a2;obtain⟨N,rfl⟩:∃N:World,N=wr:=⟨_,rfl⟩;have bB:=dz _ (getElem_mem J);have bp:=HV.out.2.2.2.2.2 _ (getElem_mem J);have aH:=Hf.out.2.2.2.2.1 _ (getElem_mem J);rw[<-Hx.out]at bB bp aH;have e4:=HV.out.2.1.ok;have cE:bl x.src≠[]:=fun e=>by
       have h1:=aH.1.2.1;have h2:=b9 x.src;rw[e]at h2;simp at h2;omega
      have ej:(cB A.bls (bl x.src)).letters≠[]:=xz cE (bp.1.elim (fun h=>absurd h cE) (fun h=>h.1));have HX:=bQ bp aH;clear bp aH;go_wp2_with fail;go_loopw [14,15] (fun sv i O=>∃(m:Nat) (t:List Nat),m<=R.list.length/\i= .int .i64 m/\t=0::1::di A.bls x.l (d.take m) (r.take m)/\O.ownsRow N.heap.size 3 1 sv t.length (ed t)/\
       Blk O N.heap.size #[.string x.src,.string x.dst,.string x.nxt,.bool x.fin] 88/\Below N.heap.size N O) (fun _ i _=>R.list.length-(intOf i).toNat)
      case atStart=>exact⟨0,_,zero_le _,rfl,rfl,dV.out,ez.out,eL⟩
      case round=>
       obtain⟨m,t,hm,rfl,cL,cA,dN,ax⟩:=hrel;have ag:=bP cL;have aV:=bP cA;have ad:=bP dN;clear cL cA dN;have ch:=aC.trans (ax.mono aC.size);have cO:=G.trans (ch.mono G.size);obtain⟨⟨r0,r1,r2⟩,⟨a0,a1,a2⟩,eV⟩:=Hk.out wr ch;clear eV;have x0:wr.cell? ⟨N.heap.size,0,none⟩=some (.string x.src):=ad.out.cell 0;have x1:wr.cell? ⟨N.heap.size,1,none⟩=some (.string x.dst):=ad.out.cell 1;by_cases ct:m<R.list.length
       .have x2:wr.cell? ⟨N.heap.size,2,none⟩=some (.string x.nxt):=ad.out.cell 2;have x3:wr.cell? ⟨N.heap.size,3,none⟩=some (.bool x.fin):=ad.out.cell 3;obtain⟨o0,o1,o2,o3⟩:=ck.out wr cO m ct;have cv:d.take (m+1)=d.take m++[R.list[m].l]:=by rw[<-aJ.out];exact ix _ _ ct
        have ak:r.length=R.list.length:=by rw[Z.out,eD,D.out]
        have cu:r.take (m+1)=r.take m++[r[m]'(by omega)]:=by rw[take_add_one,getElem?_eq_getElem (by omega)];rfl
        have bA:di A.bls x.l (d.take (m+1)) (r.take (m+1))=di A.bls x.l (d.take m) (r.take m)++if jT A.bls x.l R.list[m].l then [r[m]'(by omega)] else []:=by
         rw[cv,cu,oL];rw[length_take,length_take,ak,D.out]
        have aB:=bP bA;clear cv cu bA;have cI:(di A.bls x.l (d.take m) (r.take m)).length<=80:=by have:=iE A.bls x.l (d.take m) (r.take m);rw[length_take]at this;omega
        have dW:=bP cI;clear cI;by_cases H:bl R.list[m].nxt=[]
        .have e1:=iw H;have e2:R.list[m].nxt.toList.isEmpty=true:=by rw[e1];rfl
         have cg:jT A.bls x.l R.list[m].l=false:=by
          unfold jT;rw[show R.list[m].l.nxt=[]from H];rfl
         have Hb:=bP cg;clear H cg;go_wp2_with fail;go_quiet (fail);go_wp2;refine⟨⟨m+1,t,by omega,by go_num,?_,aV.out,ad.out,Go.below_drewN ax _⟩,by simp[intOf];omega⟩;rw[aB.out,Hb.out,ag.out];simp
        .have e1:=ic H;clear H;go_wp2_with fail;refine wp_region_still_tail 15 (by kernel_rfl) (by kernel_rfl) ?_;simp only[take_succ_cons,take_zero,drop_succ_cons,drop_zero];repeat still_step
         refine wpStill_nil ?_;change wpList _ _ _ _ _ wr.drew;have e7:=dz _ (getElem_mem ct);go_wp2_with fail;refine(vP x R.list[m] A e4 bB e7 ej _ _ ((hA.below cO.drew bW).more cO.size)).mono ?_;rintro e w5 ⟨rfl,cb⟩;have ab:=ax.drew.trans (cb.mono ax.size);have aX:=bP (Blk.below (w:=wr.drew) ad.out cb ad.out.lt);have X:=bP (cJ (a:=wr.drew) aV.out cb);cases ae:jT A.bls x.l R.list[m].l with
         |false=>
          have Hb:=bP ae;clear ae;go_wp2;refine⟨⟨m+1,t,by omega,by go_num,?_,X.out,aX.out,ab⟩,by simp[intOf];omega⟩;rw[aB.out,Hb.out,ag.out];simp
         |true=>
          have Hb:=bP ae;clear ae;have aQ:w5.cell? ⟨L.heap.size,m,none⟩=some (.int .i64 (r[m]'(by omega):Nat)):=by
           have hL:=da.out;have cp:=(hL.lt L.heap.size rfl).2;rw[(an.trans (ab.mono dI)).cell (p:=⟨L.heap.size,m,none⟩) cp,hL.cellAt m (by omega)];exact fT _ _ _ (getElem?_eq_getElem _)
          have cD:t.length<=82:=by have:=dW.out;rw[ag.out];simp;omega
          obtain⟨sa,sc,rfl,_⟩:=b8.ah X.out;go_wp2_with (at_builtin;refine wpList_append_own _ rfl _ _ 79 rfl N.heap.size 3 i0 (.int .i64 0) 1 8 underlying79 hi dO fh dP rfl (by decide) _ _ _ rfl (X.out.alloc _) ⟨w5.heap.size,0,none⟩ 1 1 [.int .i64 (r[m]'(by omega):Nat)] rfl rfl ?c1 ?c2 ?c3 ?c4 ?c5 ?_);case c1=>exact cell_one_new _ _ _
          case c2=>simp[Value.oneCell']
          case c3=>unfold maxLen;omega
          case c4=>omega
          case c5=>have:=ab.size;simp;omega
          intro v' w6 bt ao _;have Hn:=bP bt;have cT:=(aX.out.alloc (.cells #[.int .i64 (r[m]'(by omega):Nat)] 3)).grown ao (fun e=>(aX.out).own_ne X.out (by decide) e.symm);have ey:=bP cT;have eM:Below N.heap.size N w6:=(ab.alloc ab.size _).grown ao (by have:=ab.size;simp;omega) (fun k hk=>(X.out.lt k hk).1);clear bt ao cT;go_wp2;refine⟨⟨m+1,t++[r[m]'(by omega)],by omega,by go_num,?_,?_,ey.out,eM⟩,by simp[intOf];omega⟩
          .rw[aB.out,Hb.out,ag.out];simp
          .rw[jZ,length_append];exact Hn.out
       .obtain⟨wm,rfl⟩:∃wm:World,wm=wr:=⟨_,rfl⟩;go_upto_region 25 with (fail);go_cut [16] (fun c O=>c= .int .i64 (x.l.n:Nat)/\wm=O);case first=>
         have dA:x.l.n=max x.src.size x.dst.size:=by unfold db.n;rw[show x.l.src=bl x.src from rfl,show x.l.dst=bl x.dst from rfl,b9,b9]
         have ew:=bP dA;clear dA;go_wp2_with fail;all_goals go_meet
         all_goals exact⟨by rw[ew.out];congr 1;omega,rfl⟩
        case rest=>
         obtain⟨rfl,rfl⟩:=hcut;have bZ:di A.bls x.l (d.take m) (r.take m)=di A.bls x.l d r:=by
          rw[take_of_length_le (by rw[D.out];omega),take_of_length_le (by rw[Z.out,eD,D.out];omega)]
         have aI:=ag.out;rw[bZ]at aI;have aA:=bP aI;clear aI bZ;have eZ:x.l.n<=9/\1<=x.l.n:=vp (by rw[Hx.out];exact Hf.out.2.2.2.2.1 _ (getElem_mem J));have de:=bV;obtain⟨j0,hj,dt,du,dw⟩:=info_parts mn;clear x0 x1 r0 r1 r2 a0 a1 a2;go_wp2_with fail;go_loopw [11,17] (fun av j O=>∃(q:Nat) (T:List Arc),q<=x.l.n/\j= .int .i64 q/\T=dH A.bls d r C (d.take k) (r.take k)++eQ x.l (cM C (d.take k)) (r[k]?.getD 0) t q/\
          O.ownsRow M.heap.size 171 4 av T.length (flat T)/\O.ownsRow N.heap.size 3 1 u14 t.length (ed t)/\
          Blk O N.heap.size #[.string x.src,.string x.dst,.string x.nxt,.bool x.fin] 88/\Below M.heap.size M O) (fun _ j _=>x.l.n-(intOf j).toNat)
         case atStart=>exact⟨0,_,zero_le _,rfl,by rw[eQ,if_pos rfl,append_nil],cJ Ha.out ax,aV.out,ad.out,an.trans (ax.mono dI)⟩
         case round=>
          obtain⟨q,T,hq,rfl,ca,dD,dE,dM,al⟩:=hrel;have az:=bP ca;have bc:=bP dD;have df:=bP dE;have aK:=bP dM;clear ca dD dE dM;have eg:=F.trans (al.mono F.size);have gu:=G.trans (eg.mono G.size);have x0:wr.cell? ⟨N.heap.size,0,none⟩=some (.string x.src):=aK.out.cell 0;have x1:wr.cell? ⟨N.heap.size,1,none⟩=some (.string x.dst):=aK.out.cell 1;have fD:cM C (d.take k)<=1000:=by
           have h1:=sj C (d.take k) (fun y hy=>de.out y (mem_of_mem_take hy));have h2:(d.take k).length<=80:=by rw[length_take,D.out];omega
           have h3:=D.out;omega
          by_cases gj:q<x.l.n
          .have e8:IntKind.i64.wrap ((cM C (d.take k):Nat)+(q:Int))=(cM C (d.take k):Nat)+(q:Int):=IntWalk.i64_in _ (by omega);have e9:IntKind.i64.wrap ((cM C (d.take k):Nat)+(q:Int) -1)=(cM C (d.take k):Nat)+(q:Int) -1:=IntWalk.i64_in _ (by omega);have eY:=new_ne wr ⟨N.heap.size,0,none⟩ x0;have dB:=new_ne wr ⟨N.heap.size,1,none⟩ x1;obtain⟨wq,rfl⟩:∃wq:World,wq=wr:=⟨_,rfl⟩;go_upto_region 29 with (fail);go_cut [18] (fun p O=>∃g,p= .pointer (some ⟨g,0,none⟩)/\Blk O g #[.int .i64 ((cM C (d.take k):Nat)+(q:Int) -1),.int .i64 (dv (bl x.src) q),.int .i64 (dv (bl x.dst) q),.int .i64 ((cM C (d.take k):Nat)+(q:Int))] 171/\wq.heap.size<=g/\Below wq.heap.size wq O);case first=>
            go_region_held3 (fun w'=>w'.cell? ⟨N.heap.size,0,none⟩=some (.string x.src)/\w'.cell? ⟨N.heap.size,1,none⟩=some (.string x.dst)) (go_keep)
             (first |(go_at_call_of 213 (Value.string x.src);refine(ph x.src q _ bB.1).mono ?_;rintro e w' ⟨rfl,rfl⟩) |(go_at_call_of 213 (Value.string x.dst);refine(ph x.dst q _ bB.2.1).mono ?_;rintro e w' ⟨rfl,rfl⟩))
            all_goals (go_wp2_with fail;go_meet;refine⟨wq.heap.size,rfl,?_,bW,?_⟩)
            all_goals first |exact Blk.new _ _ _ |exact(bX.alloc bW _).drew
           case rest=>
            obtain⟨g,rfl,bk,eS,ae⟩:=hcut;have b3:r[k]?=some (r[k]'(by rw[Z.out,eD,D.out];omega)):=getElem?_eq_getElem _;obtain⟨lead,aE⟩:∃lead,r[k]?=some lead:=⟨_,b3⟩;have ef:=al.trans (ae.mono al.size);have aQ:wc.cell? ⟨L.heap.size,k,none⟩=some (.int .i64 (lead:Nat)):=by
             have hL:=da.out;have cp:=(hL.lt L.heap.size rfl).2;rw[ef.cell (p:=⟨L.heap.size,k,none⟩) cp,hL.cellAt k (by omega)];exact fT _ _ _ aE
            have g3:wc.cell? ⟨g,3,none⟩=some (.int .i64 ((cM C (d.take k):Nat)+(q:Int))):=bk.cell 3;have f3:=bk.frozen 3;have dd:=bP bk;have cX:=bP aE;clear bk aE b3 eY dB x0 x1 e8 e9;obtain⟨wz,rfl⟩:∃wz:World,wz=wc:=⟨_,rfl⟩;go_upto_if 137 with (fail);go_cut [] (fun O=>Blk O g #[.int .i64 ((cM C (d.take k):Nat)+(q:Int) -1),.int .i64 (dv (bl x.src) q),.int .i64 (dv (bl x.dst) q),.int .i64 (jb x.l (cM C (d.take k)) lead q)] 171/\Below wq.heap.size wq O);case first=>
             by_cases af:q+1=x.l.n
             .have d1:((q:Int)==(x.l.n:Nat) -1)=true:=by simp;omega
              have Hl:=bP af;clear af;go_wp2_with fail;go_meet;have:=dd.out.aj 3 (.int .i64 (lead:Nat));exact⟨by rw[jb,if_pos Hl.out];exact this,ae.setCell (p:=⟨g,3,none⟩) eS _⟩
             .have d1:((q:Int)==(x.l.n:Nat) -1)=false:=by simp;omega
              have Hl:=bP af;clear af;go_wp2_with fail;go_meet;exact⟨by rw[jb,if_neg Hl.out];exact dd.out,ae⟩
            case rest=>
             obtain⟨eh,aa⟩:=hcut;have aO:=al.trans (aa.mono al.size);have en:=cJ bc.out aa;have eo:=cJ df.out aa;have fg:=(aK.out).below aa (aK.out).lt;have ep:=aa.size;have gq:=al.size;have b7:T.length<=9000:=by
              rw[az.out,length_append];have h1:=jS A.bls d r C (d.take k) (r.take k) (fun y hy=>de.out y (mem_of_mem_take hy));have h2:=vk x.l (cM C (d.take k)) (r[k]?.getD 0) t q;have h3:(d.take k).length<=80:=by rw[length_take,D.out];omega
              have h4:(d.take k).length*(d.length+10)<=80*90:=Nat.mul_le_mul h3 (by rw[D.out];omega);have h5:t.length<=82:=by rw[aA.out];have:=iE A.bls x.l d r;have:=D.out;simp;omega
              omega
             have ei:u11.ownBlock≠some g:=fun e=>by have:=(bc.out.lt g e).2;omega
             have I:=bT eh en eo fg;clear aQ g3 f3;obtain⟨wy,cP⟩:∃wy:World,wy=wc:=⟨_,rfl⟩;rw[<-cP]at aO aa I ep⊢;clear cP;have dx:r[k]?.getD 0=lead:=by rw[cX.out];rfl
             obtain⟨p0,p1,p2,p3⟩:wy.cell? ⟨g,0,none⟩=_/\wy.cell? ⟨g,1,none⟩=_/\wy.cell? ⟨g,2,none⟩=_/\wy.cell? ⟨g,3,none⟩=_:=⟨I.out.1.cell 0,I.out.1.cell 1,I.out.1.cell 2,I.out.1.cell 3⟩;obtain⟨ua,uc,rfl,_⟩:=b8.ah bc.out;rcases q with _ |p
             .have bz:=df.out;obtain⟨gs,ai,rfl⟩:∃gs ai,u14= .slice (some ⟨gs,0,none⟩) t.length ai:=by
               have cn:t.length=(1::di A.bls x.l d r).length+1:=by rw[aA.out];rfl
               rw[cn]at bz;obtain⟨gs,ai,e⟩:=iS bz;exact⟨gs,ai,by rw[cn];exact e⟩
              clear bz p0 p1 p2 p3;go_wp2_with fail;go_loopw [11,19] (fun av c O=>∃(s:Nat) (f:Int),s<=t.length/\c= .int .i64 s/\
               O.ownsRow M.heap.size 171 4 av (T++(t.take s).map fun s:Nat=>eI x.l (cM C (d.take k)) lead 0 (s:Int)).length (flat (T++(t.take s).map fun s:Nat=>eI x.l (cM C (d.take k)) lead 0 (s:Int)))/\
               O.ownsRow N.heap.size 3 1 (.slice (some ⟨gs,0,none⟩) t.length ai) t.length (ed t)/\Blk O N.heap.size #[.string x.src,.string x.dst,.string x.nxt,.bool x.fin] 88/\
               Blk O g #[.int .i64 f,.int .i64 (dv (bl x.src) 0),.int .i64 (dv (bl x.dst) 0),.int .i64 (jb x.l (cM C (d.take k)) lead 0)] 171/\av.ownBlock≠some g/\Below M.heap.size M O) (fun _ c _=>t.length-(intOf c).toNat)
              case atStart=>exact⟨0,_,zero_le _,rfl,by rw[take_zero,map_nil,append_nil];exact I.out.2.1,I.out.2.2.1,I.out.2.2.2,I.out.1,ei,aO⟩
              case round=>
               obtain⟨s,f,hs,rfl,ba,cy,dJ,ds,cw,a7⟩:=hrel;obtain⟨L5,b2⟩:∃L5,L5=T++(t.take s).map fun s:Nat=>eI x.l (cM C (d.take k)) lead 0 (s:Int):=⟨_,rfl⟩;rw[<-b2]at ba;have bM:=bP b2;clear b2;have Q:=bU ba cy dJ ds cw;have e6:t.length<=82:=by rw[aA.out];have:=iE A.bls x.l d r;have:=D.out;simp;omega
               clear ba cy dJ ds cw;by_cases cD:s<t.length
               .have z0:wr.cell? ⟨gs,s,none⟩=some (.int .i64 (t[s]:Nat)):=by
                 rw[Q.out.2.1.cellAt s (by omega)];exact fT _ _ _ (getElem?_eq_getElem cD)
                obtain⟨q0,q1,q2,q3⟩:wr.cell? ⟨g,0,none⟩=_/\wr.cell? ⟨g,1,none⟩=_/\wr.cell? ⟨g,2,none⟩=_/\wr.cell? ⟨g,3,none⟩=_:=⟨Q.out.2.2.2.1.cell 0,Q.out.2.2.2.1.cell 1,Q.out.2.2.2.1.cell 2,Q.out.2.2.2.1.cell 3⟩;have f0:=Q.out.2.2.2.1.frozen 0;have eP:M.heap.size<=g:=by omega
                have eR:N.heap.size≠g:=by have:=(aK.out).lt;omega
                have cx:=bP (cV Q.out.1 (p:=⟨g,0,none⟩) Q.out.2.2.2.2 (.int .i64 (t[s]:Nat)));have ft:L5.length<=9100:=by rw[bM.out,length_append,length_map,length_take];omega
                have fK:=a7.size;obtain⟨va,vc,rfl,_⟩:=b8.ah Q.out.1;go_wp2_with (at_builtin;refine wpList_append_own_at _ rfl _ _ 96 rfl M.heap.size 171 j0 _ 4 32 underlying96 hj dt du dw rfl (by decide) _ _ _ rfl (cx.out.alloc _) ⟨wr.heap.size,0,none⟩ 1 1 (eI x.l (cM C (d.take k)) lead 0 (t[s]:Nat)).cells rfl rfl ?c1 ?c2 ?c3 ?c4 ?c5 ?_);case c1=>
                 have:=dQ (wr.setCell ⟨g,0,none⟩ (.int .i64 (t[s]:Nat))) (eI x.l (cM C (d.take k)) lead 0 (t[s]:Nat)).cells 171;rw[show(wr.setCell ⟨g,0,none⟩ (.int .i64 (t[s]:Nat))).heap.size=wr.heap.size from by simp]at this;exact this
                case c2=>simp[Arc.cells,Value.oneCell']
                case c3=>unfold maxLen;omega
                case c4=>omega
                case c5=>simp;omega
                intro v' w8 bw aq _ bm;have cG:=zY Q.out.1 Q.out.2.1 Q.out.2.2.1 Q.out.2.2.2.1 Q.out.2.2.2.2 eR _ _ aq bm;have eO:Below M.heap.size M w8:=((a7.setCell (p:=⟨g,0,none⟩) eP _).alloc (by simp;omega) _).grown aq (by simp;omega) (fun k hk=>(cx.out.lt k hk).1);have H8:=bQ bw cG;clear bw cG aq bm q0 q1 q2 q3 f0 z0;go_wp2;refine⟨⟨v',_,_,_,_,_,_,_,_,_,_,_,_,_,_,_,_,⟨s+1,_,by omega,?x1,?x2,H8.out.2.1,H8.out.2.2.1,H8.out.2.2.2.1,H8.out.2.2.2.2,eO⟩,rfl⟩,?x4⟩;case x1=>go_num
                case x2=>
                 have h9:=H8.out.1;rw[vf _ _ _ cD,<-append_assoc,<-bM.out,fR,length_append];exact h9
                case x4=>simp[intOf];omega
               .obtain rfl:s=t.length:=by omega
                go_wp2;refine⟨⟨1,_,by omega,rfl,?_,Q.out.1,Q.out.2.1,Q.out.2.2.1,a7⟩,by simp[intOf];omega⟩;rw[bM.out,take_length,az.out,eQ,if_pos rfl,append_nil,tD,dx]
             .go_wp2_with (at_builtin;refine wpList_append_own _ rfl _ _ 96 rfl M.heap.size 171 j0 _ 4 32 underlying96 hj dt du dw rfl (by decide) _ _ _ rfl (I.out.2.1.alloc _) ⟨wy.heap.size,0,none⟩ 1 1 (eI x.l (cM C (d.take k)) lead (p+1) ((cM C (d.take k):Nat)+(p:Int))).cells rfl rfl ?c1 ?c2 ?c3 ?c4 ?c5 ?_);case c1=>
               have:=dQ wy (eI x.l (cM C (d.take k)) lead (p+1) ((cM C (d.take k):Nat)+(p:Int))).cells 171;rw[show((cM C (d.take k):Nat):Int)+((p:Int)+1) -1=(cM C (d.take k):Nat)+(p:Int)from by omega];exact this
              case c2=>simp[Arc.cells,Value.oneCell']
              case c3=>unfold maxLen;omega
              case c4=>omega
              case c5=>have:=aO.size;simp;omega
              intro v' w7 bu Y _;have aN:=aO.size;have cz:=dK (I.out.2.2.1.alloc _) (I.out.2.1.alloc _) (by decide) Y;have cR:=(I.out.2.2.2.alloc _).grown Y (fun e=>I.out.2.2.2.own_ne I.out.2.1 (by decide) e.symm);have eN:Below M.heap.size M w7:=(aO.alloc aN _).grown Y (by simp;omega) (fun k hk=>(I.out.2.1.lt k hk).1);have H7:=bS bu cz cR;clear bu Y cz cR p0 p1 p2 p3;go_wp2;refine⟨⟨p+1+1,T++[eI x.l (cM C (d.take k)) lead (p+1) ((cM C (d.take k):Nat)+(p:Int))],by omega,by go_num,?_,?_,H7.out.2.1,H7.out.2.2,eN⟩,by simp[intOf];omega⟩
              .rw[az.out,sQ,dx,append_assoc]
              .rw[fR,length_append];have:=H7.out.1;simpa [flat]using this
          .obtain rfl:q=x.l.n:=by omega
           have ak:r.length=R.list.length:=by rw[Z.out,eD,D.out]
           have cC:d.take (k+1)=d.take k++[x.l]:=by rw[<-aJ.out,ix _ _ J,<-Hx.out]
           have aQ:r.take (k+1)=r.take k++[r[k]?.getD 0]:=by rw[take_add_one,getElem?_eq_getElem (by omega)];rfl
           have bh:T=dH A.bls d r C (d.take (k+1)) (r.take (k+1)):=by
            rw[cC,aQ,oH _ _ _ _ _ _ _ _ (by rw[length_take,length_take,ak,D.out]),<-aA.out,<-tC _ _ _ _ eZ.2,az.out]
           have bj:cM C (d.take (k+1))=cM C (d.take k)+x.l.n-1:=by rw[cC,pz]
           have c8:=bQ bh bj;clear cC aQ bh bj;go_wp2;refine⟨⟨k+1,by omega,by go_num,?_,?_,al⟩,by simp[intOf];omega⟩
           .rw[c8.out.2];congr 1;omega
           .rw[<-c8.out.1];exact bc.out
     .obtain rfl:k=R.list.length:=by omega
      have ak:r.length=R.list.length:=by rw[Z.out,eD,D.out]
      have be:d.take R.list.length=d:=by rw[<-D.out,take_length]
      have b0:r.take R.list.length=r:=by rw[<-ak,take_length]
      rw[be,b0]at Ha;rw[be];have b7:(dH A.bls d r C d r).length<=9000:=by
       have h1:=jS A.bls d r C d r bV.out;have h4:d.length*(d.length+10)<=80*90:=Nat.mul_le_mul (by rw[D.out];omega) (by rw[D.out];omega);omega
      have dC:=bT Ha.out b7 be b0;obtain⟨ua,uc,rfl,_,gl⟩:=b8.ah Ha.out;clear be b0 b7 Ha;go_wp2_with fail;generalize bg:wr.alloc _=WF;have cf:Below M.heap.size M WF:=by rw[<-bg];exact an.alloc an.size _
      have ek:WF.ownsRow M.heap.size 171 4 (.slice ua (dH A.bls d r C d r).length uc) (dH A.bls d r C d r).length (flat (dH A.bls d r C d r)):=by rw[<-bg];exact dC.out.1.alloc _
      have eb:b8 WF WF.heap.size (some ⟨wr.heap.size,0,none⟩) (nums [1,2]):=by
       rw[<-bg];intro _;refine⟨_,0,rfl,by simp,fun i x hx=>?_⟩;rw[Nat.zero_add];exact Box.new wr [.int .i64 1,.int .i64 2] _ i x hx
      clear bg;obtain⟨_,_,e,_,e5⟩:=b8.ah ek;injection e with e1 _ e3;subst e1 e3;refine(o7 _ _ _ (by have:=dC.out.2.1;omega) WF e5).mono ?_;rintro e w9 ⟨vs,S,rfl,cm,cq,br,cc⟩;have ee:Below M.heap.size M w9:=cf.trans (cc.mono cf.size);have cd:=F.trans (ee.mono F.size);have fb:=G.trans (cd.mono G.size);obtain⟨_,_,hm⟩:=Hk.out w9 cd;have ay:Blk w9 (w.heap.size+3) #[.int .i64 0,.int .i64 0,.slice none 0 0,.slice none 0 0] 98:=hm;have m0:w9.cell? ⟨w.heap.size+3,0,none⟩=some (.int .i64 0):=ay.cell 0;have m1:w9.cell? ⟨w.heap.size+3,1,none⟩=some (.int .i64 0):=ay.cell 1;have m2:w9.cell? ⟨w.heap.size+3,2,none⟩=some (.slice none 0 0):=ay.cell 2;have m3:w9.cell? ⟨w.heap.size+3,3,none⟩=some (.slice none 0 0):=ay.cell 3;have f0:∀j,w9.frozen? ⟨w.heap.size+3,j,none⟩=false:=fun j=>ay.frozen j;have fI:w.heap.size+3<M.heap.size:=by have:=F.size;omega
      have dy:∀bb,vs.ownBlock=some bb->bb≠w.heap.size+3:=fun bb e=>by have:=(br.lt bb e).1;have:=cf.size;omega
      have ev:=bP (yX br);obtain⟨sa,sc,rfl,_,dF⟩:=b8.ah br;have bq:∀y,y∈S↔y∈eX A.bls (R.list.map Rul.l):=by
       intro y;rw[cq,aJ.out,eX,dc.out,<-Z.out]
      have HF:=bT cm bq dF dy;clear cm cq bq dF dy br hm ay;go_wp2;refine bodyPost_ret (v:= .tuple #[.agg #[.int .i64 (cM C d:Nat),.int .i64 0,.slice (some ⟨wr.heap.size,0,none⟩) 2 2,.slice sa S.length sc],.int .i64 0]) (by simp[results,results173,go_sem,m0,m1,m2,m3]) rfl ?_;have aN:=(((fb.setCell (p:=⟨w.heap.size+3,0,none⟩) (by simp) (.int .i64 (cM C d:Nat))).setCell (p:=⟨w.heap.size+3,1,none⟩) (by simp) (.int .i64 0)).setCell (p:=⟨w.heap.size+3,2,none⟩) (by simp) (.slice (some ⟨wr.heap.size,0,none⟩) 2 2)).setCell (p:=⟨w.heap.size+3,3,none⟩) (by simp) (.slice sa S.length sc);have hS:=HF.out.2.2.1;have aG:∀bb o,sa=some ⟨bb,o,none⟩->bb≠w.heap.size+3:=fun bb o e=>HF.out.2.2.2 bb (by rw[e];rfl);have c6:=(((hS.set (p:=⟨w.heap.size+3,0,none⟩) aG (.int .i64 (cM C d:Nat))).set (p:=⟨w.heap.size+3,1,none⟩) aG (.int .i64 0)).set (p:=⟨w.heap.size+3,2,none⟩) aG (.slice (some ⟨wr.heap.size,0,none⟩) 2 2)).set (p:=⟨w.heap.size+3,3,none⟩) aG (.slice sa S.length sc);have aF:∀bb o,some (⟨wr.heap.size,0,none⟩:Addr)=some ⟨bb,o,none⟩->bb≠w.heap.size+3:=fun bb o e=>by
       have e2:wr.heap.size=bb:=by injection e with e;injection e
       have:=an.size;omega
      have eH:=eb.below cc bW;have c7:=(((eH.set (p:=⟨w.heap.size+3,0,none⟩) aF (.int .i64 (cM C d:Nat))).set (p:=⟨w.heap.size+3,1,none⟩) aF (.int .i64 0)).set (p:=⟨w.heap.size+3,2,none⟩) aF (.slice (some ⟨wr.heap.size,0,none⟩) 2 2)).set (p:=⟨w.heap.size+3,3,none⟩) aF (.slice sa S.length sc);refine⟨_,⟨(cM C d:Nat),0,[1,2],S⟩,0,rfl,⟨_,2,_,sc,rfl,by unfold maxLen;simp,ev.out,c7.more (by have:=cc.size;simpa using this),c6.more (by simp)⟩,aN,fun h=>absurd HV.out h,fun _=>⟨rfl,⟨?_,rfl,rfl,HF.out.1,HF.out.2.1⟩⟩⟩;rw[dp,aJ.out,dc.out]
 .rw[decide_eq_false hv];have aN:=(((ec.setCell (p:=⟨w.heap.size+3,0,none⟩) (by simp) (.int .i64 0)).setCell (p:=⟨w.heap.size+3,1,none⟩) (by simp) (.int .i64 0)).setCell (p:=⟨w.heap.size+3,2,none⟩) (by simp) (.slice none 0 0)).setCell (p:=⟨w.heap.size+3,3,none⟩) (by simp) (.slice none 0 0);go_wp2;refine bodyPost_ret (v:= .tuple #[.agg #[.int .i64 0,.int .i64 0,.slice none 0 0,.slice none 0 0],.int .i64 1]) (by simp[results,results173,go_sem,m0,m1,m2,m3]) rfl ?_;refine⟨_,⟨0,0,[],[]⟩,1,rfl,⟨none,0,none,0,rfl,by simp,by simp,fun h=>by simp[nums]at h,fun h=>by simp[flat]at h⟩,aN,fun _=>⟨rfl,rfl⟩,fun h=>absurd h hv⟩
end
end Go.Proofs.YtmhdgddjeadjjaaGreatDoor
