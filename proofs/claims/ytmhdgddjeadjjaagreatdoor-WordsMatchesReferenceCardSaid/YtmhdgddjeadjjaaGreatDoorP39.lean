/- A part of the proof: what the claim reaches. -/
import Derived.Test.YtmhdgddjeadjjaaGreatDoorP35
import Derived.Test.YtmhdgddjeadjjaaGreatDoorP38
import Derived.Test.YtmhdgddjeadjjaaGreatDoorRows
import Derived.Deep.DeepWitnessRowRef
import Derived.ChangeSlices
namespace Go.Proofs.YtmhdgddjeadjjaaGreatDoor
open _root_.List Go.Lib _root_.Nat Go.World _root_.Int Go.Proofs.Tryz
variable {s:ByteArray}{p:ByteArray → Prop}{i:Int}{ts:List ByteArray}{b:cC}
section
open Go.ChangeShapes Go.WideShapes Go.ChangeAt Go.RowKit Go.Joins Go.Deep
section
variable {H : Type} {enc : TypeId × Value → H} {w : World}
set_option maxRecDepth 100000
theorem nV {p:Addr}{v:Value}(h:w.cell? p=some v):p.block<w.heap.size:=by
 unfold cell? at h;split at h
 .rename_i e;exact(Array.getElem?_eq_some_iff.1 e).1
 .cases h
theorem hU {a:Addr}(h:a.spot=none)(i:Nat):a.add i=⟨a.block,a.off+i,none⟩:=by
 unfold Addr.add;split
 .rename_i e;subst e;cases a;simp_all
 .rfl
theorem pY {a:Addr}{xs:List Value}(h:∀i x,xs[i]?=some x->w.cell? (a.add i)=some x):b8 w w.heap.size (some a) xs:=fun b=>by
 have h1:=h 0 _ (getElem?_eq_getElem b);have e0:a.add 0=a:=rfl;rw[e0]at h1;have c:=cell?_spot h1;refine⟨a.block,a.off,by cases a;simp_all,nV h1,fun i x d=>?_⟩;rw[<-hU c];exact h i x d
theorem uB {n:Nat}{v:Value}{y:DataW H×List MemPlace}(h:DataW.trod enc prog w 0 (fun _=>true) true n 29 [v]=some y):
  ∃(a:Option Addr) (c:Nat) (l:List ByteArray),v= .slice a l.length c/\l.length<=maxLen/\(∀s∈l,s.size<=maxLen)/\b8 w w.heap.size a (strs l):=by
 rcases open_strs underlying29 underlying9 (by kernel_rfl) h with ⟨b,_⟩ |⟨a,len,cap,m,j,b,_,p,hm,f,_,g⟩
 .exact⟨none,0,[],by simpa using b,by simp,by simp,fun h=>by simp[strs]at h⟩
 .have k:m=cap:=by simpa using f
  refine⟨some a,cap,(range len).map j,by simpa using b,by simp;omega,?_,pY fun i x d=>?_⟩
  .intro s o;obtain⟨i,d,rfl⟩:=mem_map.1 o;have:=mem_range.1 d;exact(g i (by omega)).2
  .have e:i<len:=by
    have:=(List.getElem?_eq_some_iff.1 d).1;simpa [strs]using this
   rw[(g i (by omega)).1];simpa [strs,e]using d
theorem BS {n:Nat}{v:Value}{y:DataW H×List MemPlace}(h:DataW.trod enc prog w 0 (fun _=>true) true n 79 [v]=some y):
  ∃(a:Option Addr) (c:Nat) (l:List Int),v= .slice a l.length c/\l.length<=maxLen/\b8 w w.heap.size a (nums l):=by
 rcases open_ints underlying79 underlying3 (by kernel_rfl) h with ⟨b,_⟩ |⟨a,len,cap,e,b,_,m,hm,j,_,g,_⟩
 .exact⟨none,0,[],by simpa using b,by simp,fun h=>by simp[nums]at h⟩
 .have k:e.length=cap:=by simpa using j
  have hle:(e.take len).length=len:=by rw[length_take];omega
  refine⟨some a,cap,e.take len,by rw[hle];simpa using b,by omega,pY fun i x d=>?_⟩;have f:i<len:=by
   have:=(List.getElem?_eq_some_iff.1 d).1;simp[nums]at this;omega
  rw[g i (by omega)];simp only[nums,getElem?_map,getElem?_take,if_pos f]at d;rw[getElem?_eq_getElem (by omega)]at d;rw[<-d,getD_eq_getElem?_getD,getElem?_eq_getElem (by omega)];rfl
theorem c9:prog.cellsOf 9=1:=by kernel_rfl
theorem c4:prog.cellsOf 4=1:=by kernel_rfl
theorem c44:prog.cellsOf 88=4:=by kernel_rfl
theorem BU {n:Nat}{cs:List Value}{y:DataW H×List MemPlace}(h:DataW.trod enc prog w 0 (fun _=>true) true n 88 cs=some y)(e:cs.length=4):
  ∃r:Rul,cs=r.cells/\r.src.size<=maxLen/\r.dst.size<=maxLen/\r.nxt.size<=maxLen:=by
 obtain⟨x0,x1,g,x3,m,_,_,t0,t1,t2,t3⟩:=trod_struct4 underlying88 h;match cs,e with
 |[k0,k1,k2,k3],_=>
  simp only[c9,c4,drop_zero,drop_succ_cons,take_succ_cons,take_zero]at t0 t1 t2 t3;obtain⟨s0,e0,_,z0⟩:=DataW.trod_string underlying9 t0;obtain⟨s1,a,_,f⟩:=DataW.trod_string underlying9 t1;obtain⟨s2,c,_,z2⟩:=DataW.trod_string underlying9 t2;obtain⟨b,d,_⟩:=DataW.trod_bool underlying4 t3;simp only[cons.injEq,and_true]at e0 a c d;subst e0 a c d;exact⟨⟨s0,s1,s2,b⟩,rfl,z0,f,z2⟩
theorem Aj {n:Nat}{v:Value}{y:DataW H×List MemPlace}(h:DataW.trod enc prog w 0 (fun _=>true) true n 89 [v]=some y):
  ∃(a:Option Addr) (c:Nat) (l:List Rul),v= .slice a l.length c/\l.length<=maxLen/\(∀r∈l,r.src.size<=maxLen/\r.dst.size<=maxLen/\r.nxt.size<=maxLen)/\c8 w w.heap.size 4 a (l.map Rul.cells):=by
 rcases open_slice underlying89 h with ⟨d,_⟩ |⟨a,len,cap,m,q,D,G,d,_,I,hm,p,_,C⟩
 .exact⟨none,0,[],by simpa using d,by simp,by simp,fun h=>by simp at h⟩
 .have A:m=cap:=by simpa using p
  have each:∀i,∃r:Rul,i<len->(r.src.size<=maxLen/\r.dst.size<=maxLen/\r.nxt.size<=maxLen)/\∀j x,r.cells[j]?=some x->w.cell? ((a.add (i*4)).add j)=some x:=fun i=>by
   by_cases b:i<len
   .obtain⟨F,h1,t⟩:=C i (by omega);rw[c44]at h1;obtain⟨_,u,z⟩:=cells?_some h1;obtain⟨r,rfl,z0,E,z2⟩:=BU t u;refine⟨r,fun _=>⟨⟨z0,E,z2⟩,fun j x e=>?_⟩⟩;rw[z j (by have:=(List.getElem?_eq_some_iff.1 e).1;omega)];exact e
   .exact⟨⟨⟨#[]⟩,⟨#[]⟩,⟨#[]⟩,false⟩,fun h=>absurd h b⟩
  obtain⟨R,g⟩:=Classical.axiomOfChoice each;refine⟨some a,cap,(range len).map R,by simpa using d,by simp;omega,?_,fun s=>?_⟩
  .intro r k;obtain⟨i,b,rfl⟩:=mem_map.1 k;exact(g i (mem_range.1 b)).1
  .have o:0<len:=by simpa using s
   have h1:=(g 0 o).2 0 _ rfl;have e0:(a.add (0*4)).add 0=a:=rfl;rw[e0]at h1;have B:=cell?_spot h1;refine⟨a.block,a.off,by cases a;simp_all,nV h1,fun i r b j x e=>?_⟩;have f:i<len:=by
    have:=(List.getElem?_eq_some_iff.1 b).1;simpa using this
   have k:r=(R i).cells:=by simpa [f]using b.symm
   subst k;have:=(g i f).2 j x e;rw[hU B,hU rfl]at this;exact this
end
set_option maxRecDepth 100000
theorem Fq:ownKnob prog.godebug=none:=by kernel_rfl
theorem mq:laidOutB prog=true:=by kernel_rfl
section
variable {H : Type} {enc : TypeId × Value → H} {w : World}
theorem c3:prog.cellsOf 3=1:=by kernel_rfl
end
def EI:DataW Unit->Value
 | .lit (.int k n)=> .int k n
 |_=> .bool false
def As:DataW Unit->Array Value
 | .agg l=>(l.map EI).toArray
 |_=> #[]
end
section
open Go.RowKit Classical
set_option maxRecDepth 100000
set_option maxHeartbeats 4000000
theorem Ct (b:cC)(j:Nat)(B:cr)(k Bt:Nat)(a:Option Addr)(c:Nat)(s:ByteArray)(u:s.size<=maxLen)(w:World)(f:b.ae[j]?=some B)(p:cG B)(x:w.cell? ⟨k,0,none⟩=some (.slice a b.ae.length c))(A:w.cell? ⟨Bt,0,none⟩=some (.int .i64 (j:Int)))(l:eS w w.heap.size a b.ae):
  Calls prog 58 #[.string s,.pointer (some ⟨k,0,none⟩),.pointer (some ⟨Bt,0,none⟩)] w fun e w'=>e= .returned (.bool (decide (fq B s)))/\Below w.heap.size w w':=by
 obtain⟨g,o,C,lc,G,H,rfl,z,D,E,F,d⟩:=l.get f;have y:j<b.ae.length:=(List.getElem?_eq_some_iff.1 f).1;have i:=lW B _ s u w d;have he:dG B s=cB B.bls (bl s):=by unfold dG;rw[if_pos p]
 rw[he]at i;have q:=bP i;have n:((cB B.bls (bl s)).err==0)=decide (fq B s):=by
  by_cases h:fq B s
  .rw[decide_eq_true h];unfold fq at h;rw[h];rfl
  .rw[decide_eq_false h,beq_eq_false_iff_ne];exact h
 have r:=bP n;clear i he p f l d n;go_enter func58,ntmps58;go_wp2_with (go_at_call 45;refine q.out.mono ?_;rintro e I ⟨v,rfl,t,m⟩);go_ret;exact⟨cX r.out,m⟩
theorem ml {k:Nat}(hk:k<ts.length):(ts.take (k+1)).filter (fun t=>decide (p t))=(ts.take k).filter (fun t=>decide (p t))++(if p ts[k] then [ts[k]] else []):=by
 rw[take_succ_eq_append_getElem hk,filter_append];congr 1;by_cases h:p ts[k]<;>simp[h]
def Cy (p:ByteArray->Prop)(ts:List ByteArray)(w:World)(e:Ending)(w':World):Prop:=
 ∃(s:ByteArray) (err:Int),e= .returned (.tuple #[.string s,.int .i64 err])/\jk p ts s err/\Below w.heap.size w w'
theorem zJ (k:Nat):((ts.take k).filter (fun t=>decide (p t))).length<=(ts.filter (fun t=>decide (p t))).length:=
 ((take_sublist k ts).filter _).length_le
theorem Di (p:ByteArray->Prop)(ts:List ByteArray)(y:Option Addr)(J:Nat)(fn:FuncId)(B C:Value)(w:World)(I:ts.length<=maxLen)(h:b8 w w.heap.size y (strs ts))(M:∀args w,(callFunc fn args).run prog w= .ok (.enter fn args) w)
  (D:∀(w':World) t,Below w.heap.size w w'->t∈ts->Calls prog fn #[.string t,B,C] w' fun e w''=>e= .returned (.bool (decide (p t)))/\Below w'.heap.size w' w''):
  Calls prog 57 #[.slice y ts.length J,.func (.func fn) #[] #[B,C]] w (Cy p ts w):=by
 unfold maxLen at I;have z:=bP (fun(wr:World) (a:Below w.heap.size w wr) (k:Nat) (hk:k<ts.length)=>(show∃g o,y=some ⟨g,o,none⟩/\wr.cell? ⟨g,o+k,none⟩=some (.string ts[k])from by
  obtain⟨g,o,e,H,G⟩:=h.strs (by omega);exact⟨g,o,e,(a.cell (p:=⟨g,o+k,none⟩) H).trans (G k hk)⟩))
 have F:=bP D;clear h D;go_enter func57,ntmps57;go_wp2_with fail;go_loopw [12,6,7] (fun i v6 L wr=>∃(k:Nat) (s:ByteArray) (e:Int),k<=ts.length/\i= .int .i64 k/\v6= .string s/\L= .int .i64 e/\((bl s=[]/\e=10/\(ts.take k).filter (fun t=>decide (p t))=[])\/(e=0/\(ts.take k).filter (fun t=>decide (p t))=[s]))/\Below w.heap.size w wr) (fun i _ _ _=>ts.length-(intOf i).toNat);case atStart=>exact⟨0,⟨#[]⟩,10,zero_le _,rfl,rfl,rfl,.inl ⟨rfl,rfl,by simp⟩,bX⟩
 case round=>
  obtain⟨k,s,e,hk,rfl,rfl,rfl,l,a⟩:=hrel;have c:=bP l;clear l;by_cases u:k<ts.length
  .obtain⟨g,o,rfl,c0⟩:=z.out wr a k u;obtain⟨t,v⟩:∃t,ts[k]=t:=⟨_,rfl⟩;have f:=ml (p:=p) u;rw[v]at c0 f;have r:=bP (F.out wr t a (by rw[<-v];exact getElem_mem u));have d:=bP f;clear f v;by_cases hp:p t
   .rw[decide_eq_true hp]at r;have A:=bP hp;clear hp;rcases c.out with ⟨h1,rfl,q⟩ |⟨rfl,n⟩
    .have b:=bP (show(ts.take (k+1)).filter (fun t=>decide (p t))=[t] by rw[d.out,q,if_pos A.out];rfl);clear h1 q;go_wp2_with (refine r.out.mono ?_;rintro e E ⟨rfl,j⟩);exact⟨⟨k+1,t,0,by omega,by go_num,rfl,rfl,.inr ⟨rfl,b.out⟩,a.trans (j.mono a.size)⟩,by simp[intOf];omega⟩
    .have b:=bP (show 2<=(ts.filter (fun t=>decide (p t))).length by
      have q:(ts.take (k+1)).filter (fun t=>decide (p t))=[s]++[t]:=by rw[d.out,n,if_pos A.out]
      have:=zJ (p:=p) (ts:=ts) (k+1);rw[q]at this;exact this)
     clear n;go_wp2_with (refine r.out.mono ?_;rintro e E ⟨rfl,j⟩);go_ret2;exact⟨_,8,rfl,.inr (.inr ⟨b.out,rfl,rfl⟩),a.trans (j.mono a.size)⟩
   .rw[decide_eq_false hp]at r;have m:(ts.take (k+1)).filter (fun t=>decide (p t))=(ts.take k).filter (fun t=>decide (p t)):=by rw[d.out,if_neg hp,append_nil]
    have b:=bP (show((bl s=[]/\e=10/\(ts.take (k+1)).filter (fun t=>decide (p t))=[])\/(e=0/\(ts.take (k+1)).filter (fun t=>decide (p t))=[s])) by rw[m];exact c.out);clear hp m;go_wp2_with (refine r.out.mono ?_;rintro e E ⟨rfl,j⟩);exact⟨⟨k+1,s,e,by omega,by go_num,rfl,rfl,b.out,a.trans (j.mono a.size)⟩,by simp[intOf];omega⟩
  .obtain rfl:k=ts.length:=by omega
   have x:=bP (show jk p ts s e by
    have:=c.out;rw[take_length]at this;rcases this with ⟨h1,n,q⟩ |⟨h1,n⟩
    .exact .inl ⟨q,h1,n⟩
    .exact .inr (.inl ⟨n,h1⟩))
   go_wp2_with fail;go_ret2;exact⟨_,_,rfl,x.out,a⟩
def tT (b:cC)(x y:Int)(word:ByteArray)(w:World)(e:Ending)(w':World):Prop:=
 ∃(s:ByteArray) (err:Int),e= .returned (.tuple #[.string s,.int .i64 err])/\fX b x y word s err/\Below w.heap.size w w'
theorem zn (b:cC)(v:Value)(x:Int)(word:ByteArray)(ao:word.size<=maxLen)(w:World)(h:dm w w.heap.size v b):
  Calls prog 23 #[v,.int .i64 x,.int .i64 0,.string word] w (tT b x 0 word w):=by
 have hB:=h;obtain⟨a,c,a',c',rfl,hn,hr,hA,hR⟩:=h;have br:=hn;unfold maxLen at hn;obtain⟨l,m⟩:∃l:World,l=(w.alloc (.cells #[.slice a b.ae.length c,.slice a' b.rules.length c'] 25)).alloc (.cells #[.int .i64 0] 3):=⟨_,rfl⟩;have aF:Below w.heap.size w l:=by rw[m];exact(bX.alloc bW _).alloc (by simp) _
 have bt:l.heap.size=w.heap.size+2:=by rw[m];simp
 have ah:Blk l w.heap.size #[.slice a b.ae.length c,.slice a' b.rules.length c'] 25:=by rw[m];exact(Blk.new _ _ _).alloc _
 have aC:Blk l (w.heap.size+1) #[.int .i64 0] 3:=by
  rw[m];have:=Blk.new (w.alloc (.cells #[.slice a b.ae.length c,.slice a' b.rules.length c'] 25)) #[.int .i64 0] 3;simpa using this
 have HM:=bP (vC b _ x l ((hB.below aF bW).more (by omega)));have HA:=bP hA;have R:=bP (fun(wr:World) (I:Below l.heap.size l wr)=>have ad:=aF.trans (I.mono (by omega));(show wr.cell? ⟨w.heap.size,0,none⟩=some (.slice a b.ae.length c)/\wr.cell? ⟨w.heap.size,1,none⟩=some (.slice a' b.rules.length c')/\wr.cell? ⟨w.heap.size+1,0,none⟩=some (.int .i64 0)/\eS wr wr.heap.size a b.ae/\Below w.heap.size w wr from
  ⟨(ah.below I (by omega)).cell 0,(ah.below I (by omega)).cell 1,(aC.below I (by omega)).cell 0,(HA.out.below ad bW).more ad.size,ad⟩))
 clear hB hA hR ah aC;go_enter func23,ntmps23;go_upto_region 1 with (fail);rw[<-m];clear m;obtain⟨x0,x1,x2, -, -⟩:=R.out l bX;go_wp2_with fail;refine HM.out.mono ?_;rintro e r ⟨v1,M,e1,rfl,aD,aE,aB⟩;have az:=aD;obtain⟨fa,fc,aa,ac,rfl, -, -, -, -⟩:=aD;have aK:=aB.size;clear x0 x1 x2;go_upto_region 2 with (fail);obtain⟨y,u⟩:∃y:World,y=r.alloc (.cells #[.int .i64 M.ag,.int .i64 M.start,.slice fa M.final.length fc,.slice aa M.arcs.length ac] 98):=⟨_,rfl⟩;have ab:Below r.heap.size r y:=by rw[u];exact bX.alloc bW _
 have bu:y.heap.size=r.heap.size+1:=by rw[u];simp
 have aW:Blk y r.heap.size #[.int .i64 M.ag,.int .i64 M.start,.slice fa M.final.length fc,.slice aa M.arcs.length ac] 98:=by rw[u];exact Blk.new _ _ _
 rw[<-u];clear u;have z:=aB.trans (ab.mono aK);have Z:=(az.below ab bW).more ab.size;obtain⟨x0,x1,x2,X,aH⟩:=R.out y z;have T:=bP aE;clear az aE;by_cases J:e1=0;case neg=>
  have d1:(e1 != 0)=true:=by simpa using J
  have d:=bP (show fX b x 0 word ⟨#[]⟩ e1 from⟨M,e1,T.out,.inl ⟨J,rfl,rfl⟩⟩);clear X Z J;go_wp2_with fail;go_ret2;exact⟨_,_,rfl,d.out,aH⟩
 subst J;obtain⟨hv,i,aZ,aV,O,aO⟩:cU b/\∃i:Nat,x=(i:Int)/\i<b.ae.length/\fg b i 0 M/\0<b.ae.length:=by
  rcases T.out with ⟨_,e,_⟩ |⟨hv,i,j,q1,q2,q3,q4,q5⟩
  .cases e
  .obtain rfl:j=0:=by omega
   refine⟨hv,i,q1,q3,?_,q4⟩;rcases q5 with ⟨_,q,_⟩ |⟨n,_⟩
   .exact q
   .exfalso;by_cases h:i=0
    .exact n (.inl h)
    .exact n (.inr (lg hv (by omega) q3))
 subst aZ;obtain⟨A,Y⟩:∃A,b.ae[i]?=some A:=⟨_,getElem?_eq_getElem aV⟩;obtain⟨B,ay⟩:∃B,b.ae[0]?=some B:=⟨_,getElem?_eq_getElem aO⟩;obtain⟨g,o,la,lc,sa,sc,rfl,hg,p0,p1,p2,ax⟩:=X.get Y;have HF:=bP (Cw A _ word ao y ax);have aM:=bP Z;have U:=bT hv Y ay O;clear X Z ax hv Y ay O;go_wp2_with fail;refine HF.out.mono ?_;rintro e Q ⟨t,V,rfl,af,H⟩;have C:=z.trans (H.mono z.size);obtain⟨y0,y1,y2,aQ,aJ⟩:=R.out Q C;have k:=aW.below H (by omega);have m0:Q.cell? ⟨r.heap.size,0,none⟩=some (.int .i64 M.ag):=k.cell 0;have m1:Q.cell? ⟨r.heap.size,1,none⟩=some (.int .i64 M.start):=k.cell 1;have m2:Q.cell? ⟨r.heap.size,2,none⟩=some (.slice fa M.final.length fc):=k.cell 2;have m3:Q.cell? ⟨r.heap.size,3,none⟩=some (.slice aa M.arcs.length ac):=k.cell 3;have aA:∀s err,((V≠0/\bl s=[]/\err=1)\/(V=0/\∃ts p,et M (bl t) ts p/\((p≠0/\bl s=[]/\err=p)\/(p=0/\jk (fq B) ts s err))))->fX b (i:Int) 0 word s err:=fun s err hh=>
  ⟨M,0,T.out,.inr ⟨rfl,A,B,U.out.2.1,U.out.2.2.1,t,V,af,hh⟩⟩
 have S:=bP aA;have bw:t.size<=400:=by
  rcases af with ⟨q1,q2,q3,_⟩ |⟨_,q,_⟩
  .have:=(ud q1 q2).2.2.2;rw[<-b9,q3];omega
  .rw[<-b9,q];simp
 clear x0 x1 x2 p0 p1 p2 aA af k;by_cases L:V=0;case neg=>
  have d1:(V != 0)=true:=by simpa using L
  have d:=bP (S.out ⟨#[]⟩ 1 (.inl ⟨L,rfl,rfl⟩));clear L;go_wp2_with fail;go_ret2;exact⟨_,_,rfl,d.out,aJ⟩
 subst L;have aN:=bP (Cz M _ t (by unfold maxLen;omega) Q ((aM.out.below H bW).more H.size));clear aQ;go_wp2_with fail;refine aN.out.mono ?_;rintro e w4 ⟨v4,ts,p,rfl,⟨ta,tc,rfl,F⟩,aT,f⟩;have D:=C.trans (aT.mono C.size);obtain⟨z0,z1,z2,aw,E⟩:=R.out w4 D;have ai:=fun t' (ht:t'∈ts)=>p7 f ht;have hlen:=xE f;have G:=bP f;clear f y0 y1 y2 m0 m1 m2 m3;by_cases N:p=0;case neg=>
  have d1:(p != 0)=true:=by simpa using N
  have d:=bP (S.out ⟨#[]⟩ p (.inr ⟨by trivial,ts,p,G.out,.inl ⟨N,rfl,rfl⟩⟩));clear N aw F ai;go_wp2_with fail;go_ret2;exact⟨_,_,rfl,d.out,E⟩
 subst N;have HO:=bP (Di (fq B) ts ta tc 58 (.pointer (some ⟨w.heap.size,0,none⟩)) (.pointer (some ⟨w.heap.size+1,0,none⟩)) w4 (by unfold maxLen;omega) F (enters_of func58 (by kernel_rfl) rfl)
  (fun w' t' aS aY=>by
   have aG:=D.trans (aS.mono D.size);obtain⟨q0,_,q2,qA,_⟩:=R.out w' aG;exact Ct b 0 B _ _ _ _ t' (by have:=ai t' aY;unfold maxLen;omega) w' U.out.2.2.1 (U.out.1.scr.aI B (mem_of_getElem? U.out.2.2.1)) q0 q2 qA))
 clear aw F ai;go_wp2_with fail;refine HO.out.mono ?_;rintro e w5 ⟨s,err,rfl,P,aU⟩;have d:=bP (S.out s err (.inr ⟨by trivial,ts,0,G.out,.inr ⟨rfl,P⟩⟩));clear P;go_wp2_with fail;go_ret2;exact⟨_,_,rfl,d.out,E.trans (aU.mono E.size)⟩
attribute [local go_sem] Oper.semAt_some
theorem pM:∀(l:List (List UInt8)),join l [32]=dO l
 |[]=>rfl
 |[p]=>by rw[Lib.join_one];rfl
 |p::q::l=>by
  have a:=pM (q::l);rw[join_cons]at a⊢;show _=p++32::dO (q::l);rw[<-a];simp[joinTail]
theorem r7 {W b:World}{c B:Nat}{t e:TypeId}{size:Nat}{v v':Value}{k m:Nat}{xs j:List Value}{tmp:Obj}
  (p:Boxed W B t v)(i:t≠e)(f:W.ownsRow c e size v k xs)(q:c<=W.heap.size)(g:B<c)
  (a:b.ownsRow c e size v' m j)(d:(W.alloc tmp).grownBy b v.ownBlock):
  Boxed b B t v/\Boxed (b.setCell ⟨B,0,none⟩ v') B t v'/\(b.setCell ⟨B,0,none⟩ v').ownsRow c e size v' m j/\KeepsOthers W (b.setCell ⟨B,0,none⟩ v')/\Below B W (b.setCell ⟨B,0,none⟩ v'):=by
 obtain⟨h1,l, -,n,o⟩:=p.appended i (cP f (Nat.le_of_lt g)) (by omega) bW (cP a (Nat.le_of_lt g)) d;exact⟨h1,l,cV a (fun e=>by have:=(a.lt _ e).1;show False;simp at this;omega) _,n,o⟩
theorem Cr {x:ByteArray}(h:bl x∈cA (bl s)):x.size<=s.size:=by
 rw[oO]at h;have h1:=(mem_filter.1 h).1;rw[<-om]at h1;obtain⟨t,a,e⟩:=mem_map.1 h1;rw[<-cY e];exact pV s t a
theorem kK {W W':World}(h:Below W.heap.size W W'):KeepsOthers W W':=⟨h.size,fun k _ hk _=>(h.block k (Array.getElem?_eq_some_iff.1 hk).1).trans hk⟩
theorem zt {x:List UInt8}(h:gp b i x s 0):s.size<=1000000:=by
 obtain⟨M,g, -,⟨h1, -,c⟩ |⟨-,A,B, -, -,f,j, -,⟨-, -,c⟩ |⟨-,ts,k,d,⟨e, -,a⟩ |⟨-,⟨-, -,a⟩ |⟨a, -⟩ |⟨-, -,a⟩⟩⟩⟩⟩:=h
 .exact absurd c.symm h1
 .cases c
 .exact absurd a.symm e
 .cases a
 .have:s∈ts:=(mem_filter.1 (show s∈ts.filter _ by rw[a];exact mem_singleton.2 rfl)).1;exact p7 d this
 .cases a
def Fk (a:World)(o:Nat)(b:cC)(i:Int)(pre:List ByteArray)(W:World):Prop:=
 (∃v outs,Boxed W o 29 v/\W.ownsRow (o+2) 9 1 v outs.length (strs outs)/\outs.length=pre.length/\∀(k:Nat) (x s:ByteArray),pre[k]?=some x->outs[k]?=some s->gp b i (bl x) s 0)/\Below o a W/\o+2<=W.heap.size
def Fl (w:World)(b:cC)(i:Int)(c:Code)(pre:List ByteArray)(W:World):Prop:=
 c= .ret/\∃a x s err,pre=a++[x]/\err≠0/\(∀(j:Nat) (v:ByteArray),a[j]?=some v->∃r,gp b i (bl v) r 0)/\gp b i (bl x) s err/\Blk W (w.heap.size+1+1) #[.string ⟨#[]⟩] 9/\Blk W (w.heap.size+1+1+1) #[.int .i64 err] 33/\Below w.heap.size w W
def np (b:cC)(lang:ByteArray)(i:Int)(t:List UInt8)(w:World)(e:Ending)(w':World):Prop:=
 ∃(s:ByteArray) (err:Int),e= .returned (.tuple #[.string s,.int .i64 err])/\fF b lang i t (bl s) err/\Below w.heap.size w w'
theorem D4 {lang:ByteArray}{t:List UInt8}{err:Int}{w W:World}{n:Nat}{tmps:Array Value}{a c:Nat}(hK:fF b lang i t (bl s) err)(t1:tmps[4]?.getD undef= .pointer (some ⟨a,0,none⟩))(t2:tmps[5]?.getD undef= .pointer (some ⟨c,0,none⟩))
  (m1:W.cell? ⟨a,0,none⟩=some (.string s))(m2:W.cell? ⟨c,0,none⟩=some (.int .i64 err))(d:Below w.heap.size w W):
  bodyPostM Fence.wide n prog f7 (np b lang i t w) .ret { tmps:=tmps,defers:=[] } W:=by
 refine lu (v:= .tuple #[.string s,.int .i64 err]) ?_ rfl ?_
 .simp[results,results7,go_sem,t1,t2,m1,m2]
 .exact⟨s,err,rfl,hK,d⟩
theorem rC {lang:ByteArray}{t:List UInt8}{err:Int}{w W:World}{n x D:Nat}{tmps:Array Value}{d f:TypeId}(hK:fF b lang i t (bl s) err)(t1:tmps[4]?.getD undef= .pointer (some ⟨x+1+1,0,none⟩))(t2:tmps[5]?.getD undef= .pointer (some ⟨x+1+1+1,0,none⟩))
  (g:x+3<D)(hw:w.heap.size<=x)(a:W.heap[D]?=some (.deferred (some [])))(k1:Blk W (x+1+1) #[.string s] d)(k2:Blk W (x+1+1+1) #[.int .i64 err] f)(c:Below w.heap.size w W):
  bodyPostM Fence.wide n prog f7 (np b lang i t w) .ret { tmps:=tmps,defers:=[{ target:= .collected D,args:= #[] }] } W:=by
 have m1:=(jW k1 (D:=D) (by omega) (.deferred none)).cell 0;have m2:=(jW k2 (D:=D) (by omega) (.deferred none)).cell 0;simp only[getElem?_toArray,getElem?_cons_zero]at m1 m2;refine jc (v:= .tuple #[.string s,.int .i64 err]) a ?_ rfl ?_
 .simp[results,results7,go_sem,t1,t2,m1,m2]
 .exact⟨s,err,rfl,hK,c.trans (((Below.refl _ W).grown (grownBy_putObj' W D _) c.size (fun k e=>by cases e;omega)))⟩
theorem yE (b:cC)(v:Value)(lang text:ByteArray)(i:Int)(ba:lang.size<=maxLen)(aL:text.size<=1000000000)(w:World)(h:dm w w.heap.size v b):
  Calls prog 7 #[v,jY lang i text] w (np b lang i (bl text) w):=by
 have hB:=h;obtain⟨a,c,a',c',rfl,hn,E,hA,hR⟩:=h;obtain⟨i0,hi,bZ,b0,b1⟩:=info_parts fP;unfold jY;refine(callsIn_wide (n:=5)).1 ?_;refine callsIn_of_wp_marks func7 rfl trivial ?_ rfl;simp only[ntmps7,size_toArray,length_cons,length_nil,Nat.reduceAdd,Nat.reduceSub,Array.replicate_succ,Array.replicate_zero,push_toArray,append_toArray,nil_append,cons_append];refine wpIn_wide.2 ?_;go_upto_region 1 with (fail);obtain⟨d,I⟩:∃d:World,d=(((w.alloc (.cells #[.slice a b.ae.length c,.slice a' b.rules.length c'] 25)).alloc (.cells #[.string lang,.int .i64 i,.string text] 27)).alloc (.cells #[.string ⟨#[]⟩] 9)).alloc (.cells #[.int .i64 0] 33):=⟨_,rfl⟩;rw[<-I];have bT:Below w.heap.size w d:=by rw[I];exact(((bX.alloc bW _).alloc (by simp) _).alloc (by simp;omega) _).alloc (by simp;omega) _
 have cB:d.heap.size=w.heap.size+4:=by rw[I];simp
 have aw:Blk d w.heap.size #[.slice a b.ae.length c,.slice a' b.rules.length c'] 25:=by rw[I];exact(((Blk.new _ _ _).alloc _).alloc _).alloc _
 have bd:Blk d (w.heap.size+1) #[.string lang,.int .i64 i,.string text] 27:=by rw[I];have:=((Blk.new (w.alloc (.cells #[.slice a b.ae.length c,.slice a' b.rules.length c'] 25)) #[.string lang,.int .i64 i,.string text] 27).alloc (.cells #[.string ⟨#[]⟩] 9)).alloc (.cells #[.int .i64 0] 33);simpa using this
 have be:Blk d (w.heap.size+2) #[.string ⟨#[]⟩] 9:=by rw[I];have:=(Blk.new ((w.alloc (.cells #[.slice a b.ae.length c,.slice a' b.rules.length c'] 25)).alloc (.cells #[.string lang,.int .i64 i,.string text] 27)) #[.string ⟨#[]⟩] 9).alloc (.cells #[.int .i64 0] 33);simpa using this
 have bf:Blk d (w.heap.size+3) #[.int .i64 0] 33:=by rw[I];have:=Blk.new (((w.alloc (.cells #[.slice a b.ae.length c,.slice a' b.rules.length c'] 25)).alloc (.cells #[.string lang,.int .i64 i,.string text] 27)).alloc (.cells #[.string ⟨#[]⟩] 9)) #[.int .i64 0] 33;simpa using this
 clear I;have HK:=bP (fun(wr:World) (az:Below d.heap.size d wr)=>(show Blk wr w.heap.size #[.slice a b.ae.length c,.slice a' b.rules.length c'] 25/\Blk wr (w.heap.size+1) #[.string lang,.int .i64 i,.string text] 27/\Blk wr (w.heap.size+1+1) #[.string ⟨#[]⟩] 9/\Blk wr (w.heap.size+1+1+1) #[.int .i64 0] 33/\dm wr wr.heap.size (.agg #[.slice a b.ae.length c,.slice a' b.rules.length c']) b/\Below w.heap.size w wr from
  have m:=bT.trans (az.mono (by omega))
  ⟨aw.below az (by omega),bd.below az (by omega),be.below az (by omega),bf.below az (by omega),(hB.below m bW).more m.size,m⟩))
 clear aw bd be bf hB hA hR;obtain⟨r0,V, -, -,aw, -⟩:=HK.out d bX;have x0:d.cell? ⟨w.heap.size,0,none⟩=_:=r0.cell 0;have x1:d.cell? ⟨w.heap.size,1,none⟩=_:=r0.cell 1;have x2:d.cell? ⟨w.heap.size+1,0,none⟩=_:=V.cell 0;have x3:d.cell? ⟨w.heap.size+1,1,none⟩=_:=V.cell 1;have x4:d.cell? ⟨w.heap.size+1,2,none⟩=_:=V.cell 2;simp only[getElem?_toArray,getElem?_cons_zero,getElem?_cons_succ]at x0 x1 x2 x3 x4;have HV:=bP (lF b _ lang text i ba aL d aw);clear r0 V aw;by_cases aa:dB b lang i (bl text);case neg=>
  have N:=bP (show fF b lang i (bl text) (bl ⟨#[]⟩) 1 from .inl ⟨aa,rfl,rfl⟩);have Hd:=bP (decide_eq_false aa);clear aa;go_wp2_with (refine HV.out.mono ?_;rintro e H ⟨rfl,P⟩;rw[Hd.out];obtain⟨-, -,A,B, -,m⟩:=HK.out H P;have f2:=A.frozen 0;have f3:=B.frozen 0;have y2:=A.cell 0;have y3:=B.cell 0);have k2:Blk ((H.setCell ⟨w.heap.size+1+1,0,none⟩ (.string ⟨#[]⟩)).setCell ⟨w.heap.size+1+1+1,0,none⟩ (.int .i64 1)) (w.heap.size+1+1) #[.string ⟨#[]⟩] 9:=(A.aj 0 _).far (by simp) _;have k3:Blk ((H.setCell ⟨w.heap.size+1+1,0,none⟩ (.string ⟨#[]⟩)).setCell ⟨w.heap.size+1+1+1,0,none⟩ (.int .i64 1)) (w.heap.size+1+1+1) #[.int .i64 1] 33:=(B.far (by simp) _).aj 0 _;exact D4 N.out rfl rfl (k2.cell 0) (k3.cell 0) ((m.setCell (by show w.heap.size<=w.heap.size+1+1;omega) _).setCell (by show w.heap.size<=w.heap.size+1+1+1;omega) _)
 have Hd:=bP (decide_eq_true aa);have au:=bP aa;clear aa;go_wp2_with fail;refine HV.out.mono ?_;rintro e H ⟨rfl,P⟩;rw[Hd.out];clear x0 x1 x2 x3 x4;go_upto_region 4 with (fail);obtain⟨R,ax⟩:∃R:World,R=H.alloc (.cells #[.slice none 0 0] 29):=⟨_,rfl⟩;have aI:Below H.heap.size H R:=by rw[ax];exact bX.alloc bW _
 have aW:R.heap.size=H.heap.size+1:=by rw[ax];simp
 have g0:Boxed R H.heap.size 29 (.slice none 0 0):=by rw[ax];exact Boxed.new _ _ _
 rw[<-ax];clear ax;obtain⟨-,V, -, -, -, -⟩:=HK.out R (P.trans (aI.mono P.size));have x4:R.cell? ⟨w.heap.size+1,2,none⟩=_:=V.cell 2;simp only[getElem?_toArray,getElem?_cons_zero,getElem?_cons_succ]at x4;clear V;have bY:w.heap.size+4<=H.heap.size:=by have:=P.size;omega
 obtain⟨o,ho⟩:∃o,H.heap.size=o:=⟨_,rfl⟩;rw[ho]at g0 aI aW bY⊢;go_wp2_with (refine(uv text _).mono ?_;rintro e w3 ⟨rfl,cD⟩;clear x4;subst w3);obtain⟨W3,Z⟩:∃W3:World,W3=R.alloc (.cells #[.string text] 9):=⟨_,rfl⟩;rw[<-Z];have bh:Below R.heap.size R W3:=by rw[Z];exact bX.alloc bW _
 have cz:W3.heap.size=o+2:=by rw[Z];simp[aW]
 have bL:Boxed W3 o 29 (.slice none 0 0):=by rw[Z];exact g0.alloc _
 have g1:Blk W3 (o+1) #[.string text] 9:=by rw[Z,<-aW];exact Blk.new _ _ _
 have bB:Below o H W3:=aI.trans (bh.mono (by omega));have bp:d.heap.size<=o:=by omega
 clear Z g0 aI bh;refine(wpIn_wide (n:=5)).1 ?_;refine mB (α:=ByteArray) (encs:=fun x=> #[.string x]) (Kp:=vm (o+1)) (Tn:=zl (o+1)) (S:=fun ys=>ys.map bl=cA (bl text)) (Sp:=fun pre=>pre.map bl<+:cA (bl text)) (G:=fun pre x=>(pre++[x]).map bl<+:cA (bl text)) (w0:=W3)
  rfl (by omega) (gf:=52) (lb:= #[.pointer (some ⟨o+1,0,none⟩)]) rfl trivial (enters_of func52 (by kernel_rfl) rfl)
  (uw _ (by omega) (o+1) text (by unfold maxLen;omega) W3 g1) (fun h k=>k.trans h) ?kb bX (fun _=>rfl) ?tl (Fk H o b i) (Fl w b i) ?hI ?hIx ?hT ?hTx ?h0
  (fun x=>{ tmps:= #[.agg #[.slice a b.ae.length c,.slice a' b.rules.length c'],.agg #[.string lang,.int .i64 i,.string text],.pointer (some ⟨w.heap.size,0,none⟩),.pointer (some ⟨w.heap.size+1,0,none⟩),.pointer (some ⟨w.heap.size+1+1,0,none⟩),.pointer (some ⟨w.heap.size+1+1+1,0,none⟩),.pointer (some ⟨o,0,none⟩),.string x,undef,undef,undef,
   .agg #[.slice a b.ae.length c,.slice a' b.rules.length c'],.agg #[.string lang,.int .i64 i,.string text],.bool true,.bool false,.pointer (some ⟨w.heap.size+1,2,none⟩),.string text,.func (.func 52) #[] #[.pointer (some ⟨o+1,0,none⟩)],.string x,
   undef,undef,undef,undef,undef,undef,undef,undef,undef,undef,undef,undef,undef,undef,undef,undef,undef,undef,undef,undef,undef],defers:=[] }) ?assign ?body ?done ?stop
 case kb=>
  intro W l ob cG hl _ _;exact putObj_heap_other (by omega)
 case tl=>
  rintro X Y l ob ⟨v,rfl⟩ hl hx _;exact(Below.heap_setCell X ⟨o+1,0,none⟩ _ l (by show l≠o+1;omega)).trans hx
 case hI=>
  rintro pre X Y row ⟨⟨v,outs,h1,O,T,h4⟩,U,h6⟩ hg E;obtain⟨v',k1,k2, -⟩:=holdsRow_own (β:=Unit) (o+2) o 29 9 1 (fun _=>outs.length) (fun _=>strs outs) (fun _ _=>True) () X Y row ⟨v,h1,O,trivial⟩ hg (fun r e=>(E r e).2);exact⟨⟨v',outs,k1,k2,T,h4⟩,U.grown hg (by have:=U.size;omega) (fun k hk=>by have:=(E k hk).1;omega),Nat.le_trans h6 hg.size⟩
 case hIx=>
  rintro cc pre X Y row ⟨h1,F,x,s,err,O,T,h4,U,h6,h7,h8⟩ hg E;exact⟨h1,F,x,s,err,O,T,h4,U,ko h6 hg (fun r e=>(E r e).2),ko h7 hg (fun r e=>(E r e).2),h8.grown hg h8.size (fun k hk=>by have:=(E k hk).1;omega)⟩
 case hT=>
  rintro pre X Y ⟨⟨v,outs,h1,O,T,h4⟩,U,h6⟩ ⟨u,rfl⟩;exact⟨⟨v,outs,h1.other (by show o≠o+1;omega) _,cV O (fun e=>by have:=(O.lt _ e).1;show False;simp at this) _,T,h4⟩,U.setCell (by show o<=o+1;omega) _,by simpa using h6⟩
 case hTx=>
  rintro cc pre X Y ⟨h1,F,x,s,err,O,T,h4,U,h6,h7,h8⟩ ⟨u,rfl⟩;exact⟨h1,F,x,s,err,O,T,h4,U,h6.far (by show w.heap.size+1+1≠o+1;omega) _,h7.far (by show w.heap.size+1+1+1≠o+1;omega) _,h8.setCell (by show w.heap.size<=o+1;omega) _⟩
 case h0=>exact⟨⟨_,[],bL,ownsRow_nil _ _ _ _,rfl,by simp⟩,bB,by omega⟩
 case assign=>
  intro l x W K hK;gi_wp2;exact hK
 case body=>
  rintro l pre x W ⟨⟨v,outs,hv,Q,aA,q⟩,aJ,bt⟩ br;have bq:=br.length_le;simp only[map_append,length_append,length_map,length_cons,length_nil]at bq;have cE:(cA (bl text)).length<=1000000000:=Nat.le_trans (qV _) (by rw[b9];exact aL);have cF:x.size<=text.size:=by
   refine Cr ?_;obtain⟨r,E⟩:=br;rw[<-E];simp
  have f:Below d.heap.size d W:=P.trans (aJ.mono bp);obtain⟨r0,V, -, -,bg, -⟩:=HK.out W f;have x0:W.cell? ⟨w.heap.size,0,none⟩=_:=r0.cell 0;have x1:W.cell? ⟨w.heap.size,1,none⟩=_:=r0.cell 1;have x3:W.cell? ⟨w.heap.size+1,1,none⟩=_:=V.cell 1;simp only[getElem?_toArray,getElem?_cons_zero,getElem?_cons_succ]at x0 x1 x3;have HW:=bP (CallsIn.inRound l ((callsIn_wide (n:=2)).2 (zn b _ i x (by unfold maxLen;omega) W bg)));have N:=bP q;clear r0 V bg q;gi_wp2;refine⟨trivial,HW.out.mono ?_⟩;rintro e w4 ⟨s,err,rfl,bx,L⟩;clear x0 x1 x3;have aq:gp b i (bl x) s err:=by
   unfold gp;rwa [show bs (bl x)=x from cY (cZ _)]
  have bA:Below d.heap.size d w4:=f.trans (L.mono f.size);by_cases he:err=0;case neg=>
   have d1:(err != 0)=true:=by simpa using he
   obtain⟨-, -,A,B, -,m⟩:=HK.out w4 bA;have f2:=A.frozen 0;have f3:=B.frozen 0;have y2:=A.cell 0;have y3:=B.cell 0;have aP:=bP aq;have He:=bP he;clear bx aq he;gi_wp2;have k2:Blk ((w4.setCell ⟨w.heap.size+1+1,0,none⟩ (.string ⟨#[]⟩)).setCell ⟨w.heap.size+1+1+1,0,none⟩ (.int .i64 err)) (w.heap.size+1+1) #[.string ⟨#[]⟩] 9:=(A.aj 0 _).far (by simp) _;have k3:Blk ((w4.setCell ⟨w.heap.size+1+1,0,none⟩ (.string ⟨#[]⟩)).setCell ⟨w.heap.size+1+1+1,0,none⟩ (.int .i64 err)) (w.heap.size+1+1+1) #[.int .i64 err] 33:=(B.far (by simp) _).aj 0 _;refine⟨(((kK L).trans (KeepsOthers.setCell _ _ _)).trans (KeepsOthers.setCell _ _ _)).from _,.inr ⟨rfl,rfl,pre,x,s,err,rfl,He.out,?_,aP.out,k2,k3,(m.setCell (by show w.heap.size<=w.heap.size+1+1;omega) _).setCell (by show w.heap.size<=w.heap.size+1+1+1;omega) _⟩⟩;intro j y hj;obtain⟨bm, -⟩:=List.getElem?_eq_some_iff.1 hj;exact⟨_,N.out j y (outs[j]'(by omega)) hj (getElem?_eq_getElem _)⟩
  subst he;have cy:outs.length<1000000000:=by omega
  have aH:=bP aA;clear aA bq;have bw:Boxed w4 o 29 v:=(L.block o (by omega)).trans hv;have M:w4.ownsRow (o+2) 9 1 v outs.length (strs outs):=sI Q (Chg.ai (fun _=>False) L) (fun _ h=>h.elim);have bF:o+2<=w4.heap.size:=Nat.le_trans bt L.size;have aP:=bP aq;have bO:=bw.cell;obtain⟨ra,rc,rfl,aS,aB⟩:=b8.ah M;clear aB aS bx aq;gi_wp2_with (gi_at_builtin;refine wpListIn_append_own _ rfl _ _ 29 rfl (o+2) 9 i0 (.string ByteArray.empty) 1 16 underlying29 hi bZ b0 b1 rfl (by decide) _ _ _ rfl (M.alloc _) ⟨w4.heap.size,0,none⟩ 1 1 [.string s] rfl rfl (cell_one_new _ _ _) (by simp[Value.oneCell']) (by unfold maxLen;omega) (by omega) (by simp;omega) ?_;intro v' w5 aK ao _;obtain⟨g',ca,rfl⟩:=ownsRow_succ aK;obtain⟨bu,bS,bR,bQ,bC⟩:=r7 bw (by decide) M bF (by omega) aK ao;have cv:=bu.cell;have cw:=bu.frozen);have bG:o+2<=w5.heap.size:=by have:=ao.size;simp at this;omega
  refine⟨((kK L).trans bQ).from _,.inl ⟨rfl,?_,⟨_,outs++[s],bS,?_,by simp[aH.out],?_⟩,aJ.trans ((L.mono (by omega)).trans bC),by simpa using bG⟩⟩
  .exact(Below.heap_setCell w5 ⟨o,0,none⟩ _ (o+1) (by show o+1≠o;omega)).trans ((ao.block (o+1) (by simp;omega) (fun e=>by have:=(M.lt _ e.symm).1;omega)).trans ((Below.heap_alloc w4 _ (o+1) (by omega)).trans (L.block (o+1) (by omega))))
  .rw[show strs (outs++[s])=strs outs++[.string s] by simp[strs]];simpa using bR
  .intro k y t C ht;rcases Nat.lt_or_ge k outs.length with hk |hk
   .rw[getElem?_append_left (by have:=aH.out;omega)]at C;rw[getElem?_append_left hk]at ht;exact N.out k y t C ht
   .have:=aH.out;rw[getElem?_append_right (by omega)]at C;rw[getElem?_append_right (by omega)]at ht;obtain⟨q1,rfl⟩:=List.getElem?_eq_some_iff.1 C;obtain⟨q2,rfl⟩:=List.getElem?_eq_some_iff.1 ht;simpa using aP.out
 case done=>
  rintro D ys W hD hS ⟨⟨v,outs,hv,Q,aA,q⟩,aJ,bt⟩ hK;have f:Below d.heap.size d W:=P.trans (aJ.mono bp);have bO:=hv.cell;have bD:(cA (bl text)).length=ys.length:=by rw[<-hS,length_map]
  obtain⟨A0,bM⟩:=au.out.has;obtain⟨-, -,bU,bV⟩:=au.out.parts bM;obtain⟨ra,rc,rfl,aS,aB⟩:=b8.ah Q;have an:∃g,ra=some ⟨g,0,none⟩/\outs.length<=rc:=by
   rcases Q.2 with ⟨-,h0⟩ |⟨g,cap,cur,e, -, -,h1, -⟩
   .omega
   .cases e;exact⟨g,rfl,h1⟩
  obtain⟨g,rfl,an⟩:=an;have aX:∀s∈outs,s.size<=1000000:=by
   intro s hs;obtain⟨k,hk⟩:=getElem?_of_mem hs;obtain⟨cx, -⟩:=List.getElem?_eq_some_iff.1 hk;exact zt (q k _ s (getElem?_eq_getElem (by omega)) hk)
  have bm:(dO (outs.map bl)).length<=7*1000001:=by
   have h1:=ug (outs.map bl) 1000000 (by
    intro p hp;obtain⟨s,hs,rfl⟩:=mem_map.1 hp;rw[b9];exact aX s hs)
   rw[length_map]at h1;exact Nat.le_trans h1 (mul_le_mul_right _ (by omega))
  have bk:(⟨(join (outs.map (·.data.toList)) [32]).toArray⟩:ByteArray)=bs (dO (outs.map bl)):=by
   unfold bs;rw[pM];rfl
  have bj:g<W.heap.size:=by
   obtain⟨b2,o2,e,hb, -⟩:=aB (by simp[strs];omega);cases e;exact hb
  have HJ:=bP (strings_Join g 0 rc outs ⟨#[32]⟩ W (by
    intro j x hx;obtain⟨b2,o2,e, -,hc⟩:=aB (by simp[strs];omega);cases e
    exact hc j _ (by simp[strs,hx])) bj (by omega) an (by
    show(join (outs.map bl) [32]).length<=_;rw[pM];omega))
  rw[show((⟨#[32]⟩:ByteArray).data.toList)=[32]from rfl,bk]at HJ;have bc:=bP hK;have N:=bP q;have HS:=bP hS;have aH:=bP aA;have cu:D<W.heap.size:=(Array.getElem?_eq_some_iff.1 hK).1;have aV:lU (gp b i) (cA (bl text)) outs 0:=by
   refine .inl ⟨rfl,by omega,fun k wd t aC ht=>?_⟩;rw[<-hS,getElem?_map]at aC;cases C:ys[k]? with
   |none=>rw[C]at aC;cases aC
   |some y=>rw[C]at aC;cases aC;exact q k y t C ht
  have HR:=bP aV;obtain⟨J,hJ⟩:∃J,dO (outs.map bl)=J:=⟨_,rfl⟩;obtain⟨t6,aY⟩:∃t6,bs J=t6:=⟨_,rfl⟩;rw[hJ,aY]at HJ;have aR:bl t6=J:=by rw[<-aY,cZ]
  have cq:t6.size=J.length:=by rw[<-aR,b9]
  rw[hJ]at bm;have aO:=bP hJ;clear aB aS Q hK q hS bk aA aV hJ aY an bj bD bU bV;gi_wp2;by_cases cd:(120:Int)<(t6.size:Int)
  .have ab:=bP (show fF b lang i (bl text) (bl ⟨#[]⟩) 2 from .inr ⟨au.out,outs,0,HR.out,.inr (.inl ⟨rfl,by rw[aO.out];omega,rfl,rfl⟩)⟩);go_wp2_with (refine HJ.out.mono ?_;rintro e w6 ⟨rfl,ay⟩;obtain⟨-, -,A,B, -,m⟩:=HK.out w6 (f.trans (ay.mono f.size));have f2:=A.frozen 0;have f3:=B.frozen 0;have y2:=A.cell 0;have y3:=B.cell 0);have k2:Blk ((w6.setCell ⟨w.heap.size+1+1,0,none⟩ (.string ⟨#[]⟩)).setCell ⟨w.heap.size+1+1+1,0,none⟩ (.int .i64 2)) (w.heap.size+1+1) #[.string ⟨#[]⟩] 9:=(A.aj 0 _).far (by simp) _;have k3:Blk ((w6.setCell ⟨w.heap.size+1+1,0,none⟩ (.string ⟨#[]⟩)).setCell ⟨w.heap.size+1+1+1,0,none⟩ (.int .i64 2)) (w.heap.size+1+1+1) #[.int .i64 2] 33:=(B.far (by simp) _).aj 0 _;exact rC ab.out rfl rfl (by omega) bW ((((kK ay).trans (KeepsOthers.setCell _ _ _)).trans (KeepsOthers.setCell _ _ _)).same D _ bc.out rfl) k2 k3 ((m.setCell (by show w.heap.size<=w.heap.size+1+1;omega) _).setCell (by show w.heap.size<=w.heap.size+1+1+1;omega) _)
  .have ab:=bP (show fF b lang i (bl text) (bl t6) 0 from .inr ⟨au.out,outs,0,HR.out,.inr (.inr ⟨rfl,by rw[aO.out];omega,by rw[aO.out];exact aR,rfl⟩)⟩);go_wp2_with (refine HJ.out.mono ?_;rintro e w6 ⟨rfl,ay⟩;obtain⟨-, -,A,B, -,m⟩:=HK.out w6 (f.trans (ay.mono f.size));have f2:=A.frozen 0;have f3:=B.frozen 0;have y2:=A.cell 0;have y3:=B.cell 0);have k2:Blk ((w6.setCell ⟨w.heap.size+1+1,0,none⟩ (.string t6)).setCell ⟨w.heap.size+1+1+1,0,none⟩ (.int .i64 0)) (w.heap.size+1+1) #[.string t6] 9:=(A.aj 0 _).far (by simp) _;have k3:Blk ((w6.setCell ⟨w.heap.size+1+1,0,none⟩ (.string t6)).setCell ⟨w.heap.size+1+1+1,0,none⟩ (.int .i64 0)) (w.heap.size+1+1+1) #[.int .i64 0] 33:=(B.far (by simp) _).aj 0 _;exact rC ab.out rfl rfl (by omega) bW ((((kK ay).trans (KeepsOthers.setCell _ _ _)).trans (KeepsOthers.setCell _ _ _)).same D _ bc.out rfl) k2 k3 ((m.setCell (by show w.heap.size<=w.heap.size+1+1;omega) _).setCell (by show w.heap.size<=w.heap.size+1+1+1;omega) _)
 case stop=>
  rintro D pre W hD aU ⟨-,F,x,s,err,O,T,h4,U,h6,h7,h8⟩ hK;gi_wp2;refine rC (.inr ⟨au.out,[],err,.inr ⟨T,rfl,F.length,bl x,s,?_,?_,U⟩,.inl ⟨T,rfl,rfl⟩⟩) rfl rfl (by omega) bW hK h6 h7 h8
  .obtain⟨r,E⟩:=aU;rw[<-E,O];simp
  .intro j y hj C;obtain⟨r,E⟩:=aU;rw[<-E,O,map_append,append_assoc,getElem?_append_left (by simpa using hj),getElem?_map]at C;cases aT:F[j]? with
   |none=>rw[aT]at C;cases C
   |some z=>rw[aT]at C;cases C;exact h4 j z aT
end
section
open Go.RowKit Go.Shelf Classical
set_option maxRecDepth 100000
set_option maxHeartbeats 4000000
theorem vj (b:cC)(v:Value)(x:Int)(w:World)(h:dm w w.heap.size v b):
  Calls prog 62 #[v,.int .i64 x,.int .i64 0] w (qx b x 0 w):=by
 have hB:=h;obtain⟨a,c,O,P,rfl,hn,hr,hA,hR⟩:=h;unfold maxLen at hn;obtain⟨l,S⟩:∃l:World,l=(w.alloc (.cells #[.slice a b.ae.length c,.slice O b.rules.length P] 25)).alloc (.cells #[.int .i64 0,.int .i64 0,.slice none 0 0,.slice none 0 0] 98):=⟨_,rfl⟩;obtain⟨ar,aJ,X,ao⟩:=uK w _ _ _ _ _ _ S;have J:=bP (p8 b _ l ((hB.below ar bW).more (by omega)));have n:=bP (fun(wr:World) (G:Below l.heap.size l wr)=>have U:=ar.trans (G.mono (by omega));(show(wr.cell? ⟨w.heap.size,0,none⟩=some (.slice a b.ae.length c)/\wr.cell? ⟨w.heap.size,1,none⟩=some (.slice O b.rules.length P))/\Blk wr (w.heap.size+1) #[.int .i64 0,.int .i64 0,.slice none 0 0,.slice none 0 0] 98/\dm wr wr.heap.size (.agg #[.slice a b.ae.length c,.slice O b.rules.length P]) b/\Below w.heap.size w wr from
  ⟨⟨(X.below G (by omega)).cell 0,(X.below G (by omega)).cell 1⟩,ao.below G (by omega),(hB.below U bW).more U.size,U⟩))
 clear hB hA hR X ao;go_enter func62,ntmps62;go_upto_region 1 with (fail);rw[<-S];clear S;obtain⟨⟨x0,x1⟩, -, -, -⟩:=n.out l bX;have C:=bP (fun(aD:¬(cU b/\0<=x/\x<b.ae.length))=>(show fK b x 0 ff 1 from .inl ⟨fun q=>aD ⟨q.1,q.2.1,q.2.2.1⟩,rfl,rfl⟩));by_cases L:cU b;case neg=>
  rw[decide_eq_false L]at J;have Z:=bP (C.out (fun q=>L q.1));clear L;go_wp2_with fail;refine J.out.mono ?_;rintro e g ⟨rfl,k⟩;obtain⟨-,d, -,o⟩:=n.out g k;have t:=bP (lk d rfl);have r0:g.cell? ⟨w.heap.size+1,0,none⟩=some (.int .i64 0):=d.cell 0;have r1:g.cell? ⟨w.heap.size+1,1,none⟩=some (.int .i64 0):=d.cell 1;have r2:g.cell? ⟨w.heap.size+1,2,none⟩=some (.slice none 0 0):=d.cell 2;have r3:g.cell? ⟨w.heap.size+1,3,none⟩=some (.slice none 0 0):=d.cell 3;have f0:=d.frozen 0;have f1:=d.frozen 1;have f2:=d.frozen 2;have f3:=d.frozen 3;clear x0 x1;go_wp2_with fail;have hk:=t.out;have m0:=hk.cell 0;have m1:=hk.cell 1;have m2:=hk.cell 2;have m3:=hk.cell 3;simp only[getElem?_toArray,getElem?_cons_zero,getElem?_cons_succ]at m0 m1 m2 m3;refine bodyPost_ret (v:= .tuple #[.agg #[.int .i64 0,.int .i64 0,.slice none 0 0,.slice none 0 0],.int .i64 1]) (by simp[results,results62,go_sem,m0,m1,m2,m3]) rfl ?_;exact⟨_,ff,1,rfl,lQ _ _,Z.out,dh o (b:=w.heap.size+1) (by omega) _ _ _ _⟩
 rw[decide_eq_true L]at J;have Hv:=bP L;clear L;by_cases hx:0<=x/\x<b.ae.length;case neg=>
  have Z:=bP (C.out (fun q=>hx q.2));have V:∀g,Below l.heap.size l g->Below w.heap.size w g:=fun g k=>(n.out g k).2.2.2;by_cases aq:x<0
  .have d2:decide (x<0)=true:=decide_eq_true aq;clear hx V;go_wp2_with fail;refine J.out.mono ?_;rintro e g ⟨rfl,k⟩;obtain⟨-,d, -,o⟩:=n.out g k;have t:=bP (lk d rfl);have r0:g.cell? ⟨w.heap.size+1,0,none⟩=some (.int .i64 0):=d.cell 0;have r1:g.cell? ⟨w.heap.size+1,1,none⟩=some (.int .i64 0):=d.cell 1;have r2:g.cell? ⟨w.heap.size+1,2,none⟩=some (.slice none 0 0):=d.cell 2;have r3:g.cell? ⟨w.heap.size+1,3,none⟩=some (.slice none 0 0):=d.cell 3;have f0:=d.frozen 0;have f1:=d.frozen 1;have f2:=d.frozen 2;have f3:=d.frozen 3;clear x0 x1;go_wp2_with fail;have hk:=t.out;have m0:=hk.cell 0;have m1:=hk.cell 1;have m2:=hk.cell 2;have m3:=hk.cell 3;simp only[getElem?_toArray,getElem?_cons_zero,getElem?_cons_succ]at m0 m1 m2 m3;refine bodyPost_ret (v:= .tuple #[.agg #[.int .i64 0,.int .i64 0,.slice none 0 0,.slice none 0 0],.int .i64 1]) (by simp[results,results62,go_sem,m0,m1,m2,m3]) rfl ?_;exact⟨_,ff,1,rfl,lQ _ _,Z.out,dh o (b:=w.heap.size+1) (by omega) _ _ _ _⟩
  .have d2:decide (x<0)=false:=decide_eq_false aq;have aC:(b.ae.length:Int)<=x:=by omega
   have d3:decide ((b.ae.length:Int)<=x)=true:=decide_eq_true aC;clear hx V;go_wp2_with fail;refine J.out.mono ?_;rintro e g ⟨rfl,k⟩;obtain⟨⟨y0,y1⟩,d, -,o⟩:=n.out g k;have t:=bP (lk d rfl);have r0:g.cell? ⟨w.heap.size+1,0,none⟩=some (.int .i64 0):=d.cell 0;have r1:g.cell? ⟨w.heap.size+1,1,none⟩=some (.int .i64 0):=d.cell 1;have r2:g.cell? ⟨w.heap.size+1,2,none⟩=some (.slice none 0 0):=d.cell 2;have r3:g.cell? ⟨w.heap.size+1,3,none⟩=some (.slice none 0 0):=d.cell 3;have f0:=d.frozen 0;have f1:=d.frozen 1;have f2:=d.frozen 2;have f3:=d.frozen 3;clear x0 x1;go_wp2_with fail;have hk:=t.out;have m0:=hk.cell 0;have m1:=hk.cell 1;have m2:=hk.cell 2;have m3:=hk.cell 3;simp only[getElem?_toArray,getElem?_cons_zero,getElem?_cons_succ]at m0 m1 m2 m3;refine bodyPost_ret (v:= .tuple #[.agg #[.int .i64 0,.int .i64 0,.slice none 0 0,.slice none 0 0],.int .i64 1]) (by simp[results,results62,go_sem,m0,m1,m2,m3]) rfl ?_;exact⟨_,ff,1,rfl,lQ _ _,Z.out,dh o (b:=w.heap.size+1) (by omega) _ _ _ _⟩
 obtain⟨i,rfl⟩:∃i:Nat,x=(i:Int):=⟨x.toNat,by omega⟩;have I:i<b.ae.length:=by omega
 have u:0<b.ae.length:=by omega
 obtain⟨A,Q⟩:∃A,b.ae[i]?=some A:=⟨_,getElem?_eq_getElem I⟩;obtain⟨B,R⟩:∃B,b.ae[0]?=some B:=⟨_,getElem?_eq_getElem u⟩;have m:i≠0->∃r,gu b i 0 r:=fun h=>lg Hv.out (by omega) I;have F:=bP (fun(M:cu) (hM:fg b i 0 M)=>(show fK b (i:Int) 0 M 0 from .inr ⟨Hv.out,i,0,rfl,rfl,I,u,.inl ⟨by
  by_cases h:i=0
  .exact .inl h
  .exact .inr (m h),hM,rfl⟩⟩))
 have al:=bP (fun(w':World) (hb:Below l.heap.size l w')=>(show Calls prog 103 #[.agg #[.slice a b.ae.length c,.slice O b.rules.length P],.int .i64 i,.int .i64 0] w' (tM b i 0 w')from BY b i 0 _ w' Hv.out (n.out w' hb).2.2.1 I u m));have az:=bP (fun(w':World) (hb:Below l.heap.size l w')=>(show Calls prog 82 #[.agg #[.slice a b.ae.length c,.slice O b.rules.length P],.int .i64 i,.int .i64 0] w' (fun e w5=>e= .returned (.int .i64 (eo b A B))/\Below w'.heap.size w' w5)from j3 b _ i 0 A B Q R w' (n.out w' hb).2.2.1));have Y:i≠0->0<=eo b A B:=fun h=>Hv.out.a8 (by omega) Q R;have d2:decide ((i:Int)<0)=false:=bY;have d3:decide ((b.ae.length:Int)<=(i:Int))=false:=bY;have d4:decide (b.ae.length<=i)=false:=bY;have d5:decide ((b.ae.length:Int)<=0)=false:=bY;have d6:decide (b.ae=[])=false:=decide_eq_false (fun e=>by rw[e]at u;simp at u);have aA:=bQ m Y;clear hx Q R m Y C;go_upto_region 3 with (first |(go_at_call 46;refine J.out.mono ?_;rintro e g ⟨rfl,k⟩;obtain⟨⟨y0,y1⟩, -, -, -⟩:=n.out g k));have s:=bP k;clear x0 x1 k;by_cases H:i=0
 .have d1:((i:Int)==0)=true:=by simpa using H
  have HM:=bP (al.out g s.out);clear H;go_wp2_with fail;refine HM.out.mono ?_;rintro e p ⟨v2,M,rfl,z,j,T⟩;have y:=z;obtain⟨fa,fc,aa,ac,rfl, -, -, -, -⟩:=z;obtain⟨-,f, -,D⟩:=n.out p (s.out.trans (T.mono s.out.size));have t:=bP (fun W hW=>fS f y j.final (W:=W) hW);have r0:p.cell? ⟨w.heap.size+1,0,none⟩=some (.int .i64 0):=f.cell 0;have r1:p.cell? ⟨w.heap.size+1,1,none⟩=some (.int .i64 0):=f.cell 1;have r2:p.cell? ⟨w.heap.size+1,2,none⟩=some (.slice none 0 0):=f.cell 2;have r3:p.cell? ⟨w.heap.size+1,3,none⟩=some (.slice none 0 0):=f.cell 3;have f0:=f.frozen 0;have f1:=f.frozen 1;have f2:=f.frozen 2;have f3:=f.frozen 3;have N:=bP (F.out M j);clear f y j y0 y1;go_wp2_with fail;obtain⟨hk,hm⟩:=t.out _ rfl;have m0:=hk.cell 0;have m1:=hk.cell 1;have m2:=hk.cell 2;have m3:=hk.cell 3;simp only[getElem?_toArray,getElem?_cons_zero,getElem?_cons_succ]at m0 m1 m2 m3;refine bodyPost_ret (v:= .tuple #[.agg #[.int .i64 M.ag,.int .i64 M.start,.slice fa M.final.length fc,.slice aa M.arcs.length ac],.int .i64 0]) (by simp[results,results62,go_sem,m0,m1,m2,m3]) rfl ?_;exact⟨_,M,0,rfl,hm.more (by simp),N.out,dh D (b:=w.heap.size+1) (by omega) _ _ _ _⟩
 .have d1:((i:Int)==0)=false:=by rw[beq_eq_false_iff_ne];omega
  have aB:=aA.out.2 H;have d7:decide (0<=eo b A B)=true:=decide_eq_true aB;have HC:=bP (az.out g s.out);clear H;go_wp2_with fail;refine HC.out.mono ?_;rintro e w5 ⟨rfl,an⟩;have E:=bP (s.out.trans (an.mono s.out.size));have HM:=bP (al.out w5 E.out);clear y0 y1 an;obtain⟨⟨y0,y1⟩, -, -, -⟩:=n.out w5 E.out;go_wp2_with fail;refine HM.out.mono ?_;rintro e p ⟨v2,M,rfl,z,j,T⟩;have y:=z;obtain⟨fa,fc,aa,ac,rfl, -, -, -, -⟩:=z;obtain⟨-,f, -,D⟩:=n.out p (E.out.trans (T.mono E.out.size));have t:=bP (fun W hW=>fS f y j.final (W:=W) hW);have r0:p.cell? ⟨w.heap.size+1,0,none⟩=some (.int .i64 0):=f.cell 0;have r1:p.cell? ⟨w.heap.size+1,1,none⟩=some (.int .i64 0):=f.cell 1;have r2:p.cell? ⟨w.heap.size+1,2,none⟩=some (.slice none 0 0):=f.cell 2;have r3:p.cell? ⟨w.heap.size+1,3,none⟩=some (.slice none 0 0):=f.cell 3;have f0:=f.frozen 0;have f1:=f.frozen 1;have f2:=f.frozen 2;have f3:=f.frozen 3;have N:=bP (F.out M j);clear f y j y0 y1;go_wp2_with fail;obtain⟨hk,hm⟩:=t.out _ rfl;have m0:=hk.cell 0;have m1:=hk.cell 1;have m2:=hk.cell 2;have m3:=hk.cell 3;simp only[getElem?_toArray,getElem?_cons_zero,getElem?_cons_succ]at m0 m1 m2 m3;refine bodyPost_ret (v:= .tuple #[.agg #[.int .i64 M.ag,.int .i64 M.start,.slice fa M.final.length fc,.slice aa M.arcs.length ac],.int .i64 0]) (by simp[results,results62,go_sem,m0,m1,m2,m3]) rfl ?_;exact⟨_,M,0,rfl,hm.more (by simp),N.out,dh D (b:=w.heap.size+1) (by omega) _ _ _ _⟩
theorem Aa {err:Int}(h:DD (ts.filter (fun t=>decide (p t))) s err):jk p ts s err:=by
 rcases h with ⟨h1,rfl,rfl⟩ |⟨h1,rfl,rfl⟩ |⟨h1,rfl⟩
 .exact .inl ⟨h1,rfl,rfl⟩
 .exact .inr (.inr ⟨h1,rfl,rfl⟩)
 .exact .inr (.inl ⟨h1,rfl⟩)
theorem xS (b:cC)(v:Value)(x:Int)(word:ByteArray)(aV:word.size<=maxLen)(w:World)(h:dm w w.heap.size v b):
  Calls prog 25 #[v,.int .i64 x,.int .i64 0,.string word] w (tT b x 0 word w):=by
 have hB:=h;obtain⟨a,c,a',c',rfl,hn,hr,hA,hR⟩:=h;unfold maxLen at hn;obtain⟨i0,hi,bO,bQ,bR⟩:=info_parts fP;obtain⟨z,G⟩:∃z:World,z=w.alloc (.cells #[.slice a b.ae.length c,.slice a' b.rules.length c'] 25):=⟨_,rfl⟩;have be:Below w.heap.size w z:=by rw[G];exact bX.alloc bW _
 have ct:z.heap.size=w.heap.size+1:=by rw[G];simp
 have aK:Blk z w.heap.size #[.slice a b.ae.length c,.slice a' b.rules.length c'] 25:=by rw[G];exact Blk.new _ _ _
 have HM:=bP (vj b _ x z ((hB.below be bW).more (by omega)));have HA:=bP hA;have HK:=bP (fun(wr:World) (y:Below z.heap.size z wr)=>have aF:=be.trans (y.mono (by omega));(show wr.cell? ⟨w.heap.size,0,none⟩=some (.slice a b.ae.length c)/\wr.cell? ⟨w.heap.size,1,none⟩=some (.slice a' b.rules.length c')/\eS wr wr.heap.size a b.ae/\Below w.heap.size w wr from
  ⟨(aK.below y (by omega)).cell 0,(aK.below y (by omega)).cell 1,(HA.out.below aF bW).more aF.size,aF⟩))
 clear hB hA hR aK;go_enter func25,ntmps25;go_upto_region 1 with (fail);rw[<-G];clear G;obtain⟨x0,x1, -, -⟩:=HK.out z bX;go_wp2_with fail;refine HM.out.mono ?_;rintro e F ⟨v1,M,e1,rfl,bb,bc,a8⟩;have a6:=bb;obtain⟨fa,fc,aa,ac,rfl, -, -, -, -⟩:=bb;have bu:=a8.size;clear x0 x1;go_upto_region 2 with (fail);obtain⟨J,H⟩:∃J:World,J=F.alloc (.cells #[.int .i64 M.ag,.int .i64 M.start,.slice fa M.final.length fc,.slice aa M.arcs.length ac] 98):=⟨_,rfl⟩;have aC:Below F.heap.size F J:=by rw[H];exact bX.alloc bW _
 have cu:J.heap.size=F.heap.size+1:=by rw[H];simp
 have bM:Blk J F.heap.size #[.int .i64 M.ag,.int .i64 M.start,.slice fa M.final.length fc,.slice aa M.arcs.length ac] 98:=by rw[H];exact Blk.new _ _ _
 rw[<-H];clear H;have L:=a8.trans (aC.mono bu);have aB:=(a6.below aC bW).more aC.size;obtain⟨x0,x1,ay,br⟩:=HK.out J L;have au:=bP bc;clear a6 bc;by_cases X:e1=0;case neg=>
  have d1:(e1 != 0)=true:=by simpa using X
  have f:=bP (show fX b x 0 word ⟨#[]⟩ e1 from⟨M,e1,au.out,.inl ⟨X,rfl,rfl⟩⟩);clear ay aB X;go_wp2_with fail;go_ret2;exact⟨_,_,rfl,f.out,br⟩
 subst X;obtain⟨hv,i,bN,bL,ab,bF⟩:cU b/\∃i:Nat,x=(i:Int)/\i<b.ae.length/\fg b i 0 M/\0<b.ae.length:=by
  rcases au.out with ⟨_,e,_⟩ |⟨hv,i,j,q1,q2,q3,q4,q5⟩
  .cases e
  .obtain rfl:j=0:=by omega
   refine⟨hv,i,q1,q3,?_,q4⟩;rcases q5 with ⟨_,q,_⟩ |⟨n,_⟩
   .exact q
   .exfalso;by_cases h:i=0
    .exact n (.inl h)
    .exact n (.inr (lg hv (by omega) q3))
 subst bN;obtain⟨A,aA⟩:∃A,b.ae[i]?=some A:=⟨_,getElem?_eq_getElem bL⟩;obtain⟨B,aZ⟩:∃B,b.ae[0]?=some B:=⟨_,getElem?_eq_getElem bF⟩;obtain⟨g,o,la,lc,sa,sc,rfl,hg,p0,p1,p2,aY⟩:=ay.get aA;have HF:=bP (AK A _ word aV J aY);have bC:=bP aB;have Hv:=bT hv aA aZ ab;clear ay aB aY hv aA aZ ab;go_wp2_with fail;refine HF.out.mono ?_;rintro e w3 ⟨t,e2,rfl,aG,U⟩;have N:=L.trans (U.mono L.size);obtain⟨y0,y1,bH,bt⟩:=HK.out w3 N;have u:=bM.below U (by omega);have m0:w3.cell? ⟨F.heap.size,0,none⟩=some (.int .i64 M.ag):=u.cell 0;have m1:w3.cell? ⟨F.heap.size,1,none⟩=some (.int .i64 M.start):=u.cell 1;have m2:w3.cell? ⟨F.heap.size,2,none⟩=some (.slice fa M.final.length fc):=u.cell 2;have m3:w3.cell? ⟨F.heap.size,3,none⟩=some (.slice aa M.arcs.length ac):=u.cell 3;have a7:∀s err,((e2≠0/\bl s=[]/\err=1)\/(e2=0/\∃ts C,et M (bl t) ts C/\((C≠0/\bl s=[]/\err=C)\/(C=0/\jk (fq B) ts s err))))->fX b (i:Int) 0 word s err:=fun s err hh=>
  ⟨M,0,au.out,.inr ⟨rfl,A,B,Hv.out.2.1,Hv.out.2.2.1,t,e2,aG,hh⟩⟩
 have an:=bP a7;have cv:t.size<=400:=by
  rcases aG with ⟨q1,q2,q3,_⟩ |⟨_,q,_⟩
  .have:=(ud q1 q2).2.2.2;rw[<-b9,q3];omega
  .rw[<-b9,q];simp
 clear x0 x1 p0 p1 p2 a7 aG u;by_cases Y:e2=0;case neg=>
  have d1:(e2 != 0)=true:=by simpa using Y
  have f:=bP (an.out ⟨#[]⟩ 1 (.inl ⟨Y,rfl,rfl⟩));clear Y;go_wp2_with fail;go_ret2;exact⟨_,_,rfl,f.out,bt⟩
 subst Y;have bD:=bP (Ca M _ t (by omega) w3 ((bC.out.below U bW).more U.size));clear bH;go_wp2_with fail;refine bD.out.mono ?_;rintro e d ⟨v4,ts,C,rfl,⟨ta,tc,rfl,R⟩,bK,r⟩;have O:=N.trans (bK.mono N.size);obtain⟨z0,z1,az,Q⟩:=HK.out d O;have aQ:=fun t' (ht:t'∈ts)=>p7 r ht;have hlen:=xE r;have T:=bP r;clear r y0 y1 m0 m1 m2 m3;by_cases Z:C=0;case neg=>
  have d1:(C != 0)=true:=by simpa using Z
  have f:=bP (an.out ⟨#[]⟩ C (.inr ⟨by trivial,ts,C,T.out,.inl ⟨Z,rfl,rfl⟩⟩));clear Z az R aQ;go_wp2_with fail;go_ret2;exact⟨_,_,rfl,f.out,Q⟩
 subst Z;obtain⟨g',o',lb,gc,sb,bf,e9,aH,q0,q1,q2,a1⟩:=az.get Hv.out.2.2.1;cases e9
 have HR:=bP (fun(w':World) (m:Below d.heap.size d w') (k:Nat) (hk:k<ts.length)=>(show∃gt ot,ta=some ⟨gt,ot,none⟩/\gt<d.heap.size/\d.cell? ⟨gt,ot+k,none⟩=some (.string ts[k])from by
  obtain⟨gt,ot,e,aJ,hc⟩:=R.strs (by omega);exact⟨gt,ot,e,aJ,hc k hk⟩))
 have HB:=bP (fun(w':World) (m:Below d.heap.size d w')=>And.intro (HK.out w' (O.trans (m.mono O.size))) (show w'.cell? ⟨g,o,none⟩=some (.string B.name)/\w'.cell? ⟨g,o+1,none⟩=some (.slice lb B.letters.length gc)/\w'.cell? ⟨g,o+2,none⟩=some (.slice sb B.small.length bf)from by
  simp only[Nat.zero_mul,Nat.add_zero]at q0 q1 q2;exact⟨(m.cell (p:=⟨g,_,none⟩) aH).trans q0,(m.cell (p:=⟨g,_,none⟩) aH).trans q1,(m.cell (p:=⟨g,_,none⟩) aH).trans q2⟩))
 have bE:=bP (fun(w':World) (m:Below d.heap.size d w') (s:ByteArray) (hs:s∈ts)=>tN B (Hv.out.1.scr.aI B (mem_of_getElem? Hv.out.2.2.1)) _ s (by have:=aQ s hs;unfold maxLen;omega) w' ((a1.below m bW).more m.size));have ar:=bP Q;clear az R aQ q0 q1 q2 a1 Q z0 z1;go_wp2_with fail;go_loopw [14,15] (fun ov i wr=>∃(k:Nat) (out:List ByteArray) (oa:Option Addr) (oc:Nat),k<=ts.length/\i= .int .i64 k/\ov= .slice oa out.length oc/\out.length<=k/\out=(ts.take k).filter (fun t=>decide (fq B t))/\wr.ownsRow d.heap.size 9 1 (.slice oa out.length oc) out.length (strs out)/\Below d.heap.size d wr) (fun _ i _=>ts.length-(intOf i).toNat);case atStart=>exact⟨0,[],none,0,zero_le _,rfl,rfl,bW,by simp,ownsRow_nil _ _ _ _,bX⟩
 case round=>
  obtain⟨k,out,oa,oc,hk,rfl,rfl,cr,aN,aO,y⟩:=hrel;have l:=bS aN aO y;clear aN aO y;by_cases aL:k<ts.length;case neg=>
   obtain rfl:k=ts.length:=by omega
   obtain⟨a9,c9,e9, -,bd⟩:=b8.ah l.out.2.1;cases e9
   have HO:=bP (BZ out oa oc (by omega) wr bd);clear bd;go_wp2_with fail;refine HO.out.mono ?_;rintro e w5 ⟨⟨s,err,rfl,aM⟩,rfl⟩;have f:=bP (an.out s err (.inr ⟨by trivial,ts,0,T.out,.inr ⟨rfl,Aa (by have:=l.out.1;rw[take_length]at this;rw[<-this];exact aM)⟩⟩));clear aM;go_wp2_with fail;go_ret2;exact⟨_,_,rfl,f.out,ar.out.trans (l.out.2.2.mono ar.out.size)⟩
  obtain⟨gt,ot,rfl,aJ,c0⟩:=HR.out wr l.out.2.2 k aL;obtain⟨s,hs⟩:∃s,ts[k]=s:=⟨_,rfl⟩;rw[hs]at c0;have aP:ts[k]?=some s:=by rw[getElem?_eq_getElem aL,hs]
  have HS:=bP aP;have E:=ml (p:=fq B) aL;rw[hs,<-l.out.1]at E;have aX:=bP E;have aq:=bP (fun(w':World) (m:Below wr.heap.size wr w')=>(show(w'.cell? ⟨w.heap.size,0,none⟩=some (.slice (some ⟨g,o,none⟩) b.ae.length c))/\(w'.cell? ⟨g,o,none⟩=some (.string B.name)/\w'.cell? ⟨g,o+1,none⟩=some (.slice lb B.letters.length gc)/\w'.cell? ⟨g,o+2,none⟩=some (.slice sb B.small.length bf))/\w'.cell? ⟨gt,ot+k,none⟩=some (.string s)from by
   have aD:=l.out.2.2.trans (m.mono l.out.2.2.size);have h1:=HB.out w' aD;exact⟨h1.1.1,h1.2,(aD.cell (p:=⟨gt,_,none⟩) aJ).trans c0⟩))
  have HC:=bP (fun(w':World) (m:Below wr.heap.size wr w')=>bE.out w' (l.out.2.2.trans (m.mono l.out.2.2.size)) s (mem_of_getElem? aP));clear hs aP E c0;go_upto_region 14 with (fail);go_cut [62] (fun v wx=>v= .bool (decide (fq B s))/\Below wr.heap.size wr wx);case first=>
   refine wp_region_held_drew (S:=fun w'=>Below wr.heap.size wr w') (by kernel_rfl) (Go.below_drewN (Below.refl _ wr) 1) (fun bV=>?_);have P:Below wr.heap.size wr _:=Go.below_drewN (Below.refl _ wr) 1;refine tk [0,1,2,3,4,5,6,7,8] ?_;repeat ((refine tkt (v:=?_) ?_ ?_;rotate_left;·intro w' bJ;obtain⟨s0,⟨s1,s2,s3⟩,s4⟩:=aq.out w' bJ;go_simp<;>with_reducible rfl);try simp only[pS])
   refine tkn ?_;refine rd1 9 (fun K hK=>?_);go_simp;go_at_call 48;refine(HC.out _ (P)).mono ?_;rintro e cw ⟨rfl,bq⟩;have aE:=Below.trans (P) (bq.mono (Below.size (P)));refine hK.out _ _ aE (fun _=>?_);clear hK K;try simp only[pS]
   refine wpAnyH_done (by kernel_rfl) ?_ _;go_wp2_with fail;go_meet;exact⟨congrArg Value.bool (decide_eq_decide.2 Iff.rfl),aE⟩
  case rest=>
   obtain⟨rfl,V⟩:=hcut;have ao:=bP (cJ l.out.2.1 V);have ak:=bP (l.out.2.2.trans (V.mono l.out.2.2.size));obtain⟨-, -,c0⟩:=aq.out wc V;have bw:=ak.out.size;clear V aq HC;by_cases hw:fq B s;case neg=>
    rw[decide_eq_false hw];have HE:=bP (show out=(ts.take (k+1)).filter (fun t=>decide (fq B t))from by rw[aX.out,if_neg hw];simp);clear hw;go_wp2_with fail;exact⟨⟨k+1,out,oa,oc,by omega,by go_num,rfl,by omega,HE.out,ao.out,ak.out⟩,by simp[intOf];omega⟩
   rw[decide_eq_true hw];have HE:=bP (show out++[s]=(ts.take (k+1)).filter (fun t=>decide (fq B t))from by rw[aX.out,if_pos hw]);clear hw;go_wp2_with (at_builtin;refine wpList_append_own_at _ rfl _ _ 29 rfl d.heap.size 9 i0 _ 1 16 underlying29 hi bO bQ bR rfl (by decide) _ _ _ rfl (ao.out.alloc _) ⟨wc.heap.size,0,none⟩ 1 1 [.string s] rfl rfl (by exact dQ _ _ _) (by simp[Value.oneCell']) (by unfold maxLen;omega) (by omega) (by simp;omega) ?_);intro v5 w5 D I _ _;obtain⟨bg,bh,rfl, -, -⟩:=b8.ah D;have ba:out.length+1=(out++[s]).length:=by simp
   have H5:=bP (show w5.ownsRow d.heap.size 9 1 (.slice bg (out++[s]).length bh) (out++[s]).length (strs (out++[s]))/\Below d.heap.size d w5 from by
    refine⟨by rw[<-ba,nh];exact D,?_⟩;exact(ak.out.alloc bw _).grown I (by simp;omega) (fun j hj=>(ao.out.lt j hj).1))
   rw[ba];clear D I;go_wp2_with fail;exact⟨⟨k+1,out++[s],bg,bh,by omega,by go_num,rfl,by simp;omega,HE.out,H5.out.1,H5.out.2⟩,by simp[intOf];omega⟩
end
end Go.Proofs.YtmhdgddjeadjjaaGreatDoor
