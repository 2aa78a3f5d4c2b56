/- A part of the proof: what the claim reaches. -/
import Derived.Test.YtmhdgddjeadjjaaGreatDoorP32
import Derived.Test.YtmhdgddjeadjjaaGreatDoorP36
namespace Go.Proofs.YtmhdgddjeadjjaaGreatDoor
open _root_.List Go.Lib _root_.Nat Go.World _root_.Int Go.Proofs.Tryz
variable {k:Nat}
section
open Go.RowKit Classical
def lX (P:Prop)(e:Ending):Prop:=∃q:Bool,e= .returned (.bool q)/\(q=true->P)
theorem kE (P:Prop):lX P (.returned (.bool false)):=⟨false,rfl,fun h=>by cases h⟩
theorem jf {P:Prop}{q:Bool}(h:q=true->P):lX P (.returned (.bool q)):=⟨q,rfl,h⟩
theorem su:∀(l:List (List UInt8)) (p:List UInt8),l≠[]->dO (l++[p])=dO l++32::p
 |[],_,h=>absurd rfl h
 |[q],p,_=>rfl
 |q::r::l,p,_=>by
  have a:=su (r::l) p (by simp);show q++32::dO ((r::l)++[p])=(q++32::dO (r::l))++32::p;rw[a];simp
theorem rZ (a b:ByteArray):bl (a++b)=bl a++bl b:=by
 unfold bl;simp[ByteArray.data_append]
theorem join_one {ts:List ByteArray}(hk:k<ts.length)(a:k=0){t:ByteArray}(b:bl t=dO ((ts.take k).map bl)):bl (t++ts[k])=dO ((ts.take (k+1)).map bl):=by
 subst a;rw[rZ,b,take_add_one,getElem?_eq_getElem hk];rfl
theorem Bq {ts:List ByteArray}(hk:k<ts.length)(b:0<k){t:ByteArray}(a:bl t=dO ((ts.take k).map bl)):bl (t++⟨#[32]⟩++ts[k])=dO ((ts.take (k+1)).map bl):=by
 rw[rZ,rZ,a,take_add_one,getElem?_eq_getElem hk,Option.toList_some,map_append,map_singleton,su _ _ (by
  intro e;have:=congrArg length e;rw[length_map,length_take,length_nil]at this;omega),append_assoc]
 rfl
theorem rN (a b:ByteArray):(a++b).size=a.size+b.size:=by
 rw[<-b9,rZ,length_append,b9,b9]
set_option maxRecDepth 100000
set_option maxHeartbeats 4000000
theorem rT (ts:List ByteArray)(A:Option Addr)(D:Nat)(hlen:ts.length<=1000)(u:∀s∈ts,s.size<=1000)(w:World)(h:b8 w w.heap.size A (strs ts)):
  Calls prog 26 #[.slice A ts.length D] w fun e w'=>(∃s:ByteArray,e= .returned (.string s)/\bl s=dO (ts.map bl)/\s.size<=1001*ts.length)/\w'=w:=by
 go_enter func26,ntmps26;go_wp2_with fail;go_loop [3,4] (fun o i=>∃(k:Nat) (t:ByteArray),k<=ts.length/\o= .string t/\i= .int .i64 k/\bl t=dO ((ts.take k).map bl)/\t.size<=1001*k) (fun _ i=>ts.length-(intOf i).toNat);case atStart=>exact⟨0,⟨#[]⟩,zero_le _,rfl,rfl,rfl,bW⟩
 case round=>
  obtain⟨k,t,hk,rfl,rfl,v,y⟩:=hrel;have m:=bP v;clear v;by_cases a:k<ts.length
  .obtain⟨b,off,rfl,E,r⟩:=h.strs (by omega);have k0:=r k a;have C:=u _ (getElem_mem a);have H1:=bP (fun c:k=0=>join_one a c m.out);have p:=bP (fun c:0<k=>Bq a c m.out);obtain⟨x,z⟩:∃x,x=ts[k]:=⟨_,rfl⟩;rw[<-z]at k0 C H1 p;clear r z;have f:((⟨#[32]⟩:ByteArray)).size=1:=rfl;have g:=rN t ⟨#[32]⟩;have j:=rN (t++⟨#[32]⟩) x;have l:=rN t x;by_cases c:0<k
   .have B:∀W,(Op.stringOp .add t ⟨#[32]⟩).run prog W= .ok (.string (t++⟨#[32]⟩)) W:=fun W=>run_string_add_sum W _ _ (by omega);have d:∀W,(Op.stringOp .add (t++⟨#[32]⟩) x).run prog W= .ok (.string (t++⟨#[32]⟩++x)) W:=fun W=>run_string_add_sum W _ _ (by omega);have n:=bP (show(t++⟨#[32]⟩++x).size<=1001*(k+1) by omega);clear f g j l;go_wp2;exact⟨⟨k+1,_,by omega,rfl,by go_num,p.out c,n.out⟩,by simp[intOf];omega⟩
   .have d:∀W,(Op.stringOp .add t x).run prog W= .ok (.string (t++x)) W:=fun W=>run_string_add_sum W _ _ (by omega);have n:=bP (show(t++x).size<=1001*(k+1) by omega);clear f g j l;go_wp2;exact⟨⟨k+1,_,by omega,rfl,by go_num,H1.out (by omega),n.out⟩,by simp[intOf];omega⟩
  .obtain rfl:k=ts.length:=by omega
   have q:=bP (show bl t=dO (ts.map bl) by have:=m.out;rwa [take_length]at this);go_wp2;go_ret;exact⟨⟨t,rfl,q.out,y⟩,rfl⟩
def oZ (l:List Sht)(k:Nat):Prop:=∀(j:Nat) (s:Sht),j<k->l[j]?=some s->s.lang.size<=200/\s.short.size<=200/\s.full.size<=200
def o4 (W:List ByteArray)(k:Nat):Prop:=∀(j:Nat) (s:ByteArray),j<k->W[j]?=some s->s.size<=200
theorem oZ.step {l:List Sht}{x:Sht}(h:oZ l k)(c:l[k]?=some x)(d:x.lang.size<=200/\x.short.size<=200/\x.full.size<=200):oZ l (k+1):=fun j s b a=>by
 rcases Nat.lt_succ_iff_lt_or_eq.1 b with q |rfl
 .exact h j s q a
 .rw[c]at a;rw[<-Option.some.inj a];exact d
theorem o4.step {W:List ByteArray}{x:ByteArray}(h:o4 W k)(c:W[k]?=some x)(d:x.size<=200):o4 W (k+1):=fun j s b a=>by
 rcases Nat.lt_succ_iff_lt_or_eq.1 b with q |rfl
 .exact h j s q a
 .rw[c]at a;rw[<-Option.some.inj a];exact d
def AN (l:List Sht)(W:List ByteArray):Prop:=(l.length<=110/\W.length<=14)/\(∀s∈l,s.lang.size<=200/\s.short.size<=200/\s.full.size<=200)/\∀s∈W,s.size<=200
theorem Ci {l:List Sht}{W:List ByteArray}{j:Nat}(h1:l.length<=110)(c:W.length<=14)(hk:l.length<=k)(e:W.length<=j)(d:oZ l k)(hw:o4 W j):AN l W:=
 ⟨⟨h1,c⟩,fun s b=>by
  obtain⟨i,a⟩:=getElem?_of_mem b;exact d i s (by have:=(List.getElem?_eq_some_iff.1 a).1;omega) a,fun s b=>by
  obtain⟨i,a⟩:=getElem?_of_mem b;exact hw i s (by have:=(List.getElem?_eq_some_iff.1 a).1;omega) a⟩
theorem zh (l:List Sht)(W:List ByteArray)(E F:Option Addr)(lc wc:Nat)(J:l.length<=maxLen)(H:W.length<=maxLen)(z:∀s∈l,s.fits)(t:∀s∈W,s.size<=maxLen)(w:World)(h:c8 w w.heap.size 4 E (l.map Sht.cells))(hw:b8 w w.heap.size F (strs W)):
  Calls prog 6 #[.slice E l.length lc,.slice F W.length wc] w fun e w'=>lX (AN l W) e/\w'=w:=by
 unfold maxLen at J H t;go_enter func6,ntmps6;go_wp2_with fail;go_loop [5] (fun i=>∃k:Nat,k<=l.length/\k<=110/\i= .int .i64 k/\oZ l k) (fun i=>l.length-(intOf i).toNat);case atStart=>exact⟨0,zero_le _,zero_le _,rfl,fun j s g=>absurd g (not_lt_zero _)⟩
 case round=>
  obtain⟨k,hk,O,rfl,p⟩:=hrel;have A:=bP p;clear p;by_cases a:k<l.length/\k<110
  .obtain⟨a,hm⟩:=a;obtain⟨b,off,rfl,I,d⟩:=h.a7 (by omega);obtain⟨k0,k1,k2, -⟩:=d k a;have D:=z _ (getElem_mem a);obtain⟨x,c⟩:∃x,x=l[k]:=⟨_,rfl⟩;have y:=bP (show l[k]?=some x by rw[c];exact getElem?_eq_getElem a);rw[<-c]at k0 k1 k2 D;obtain⟨f1,f2,f3⟩:=D;unfold maxLen at f1 f2 f3;clear d c;by_cases f:x.short.size<=200/\x.full.size<=200/\x.lang.size<=200
   .obtain⟨y1,y2,y3⟩:=f;have v:=bP (A.out.step y.out ⟨y3,y1,y2⟩);go_wp2;exact⟨⟨k+1,by omega,by omega,by go_num,v.out⟩,by simp[intOf];omega⟩
   .have C:=bP f;clear f;go_wp2;all_goals first
     |(go_ret;exact⟨kE _,rfl⟩)
     |(exfalso;have:=C.out;omega)
  .have M:=bP a;have o:(k<l.length/\110<=k)\/l.length<=k:=by omega
   clear a;have m:∀{Q:Prop},(k<l.length->110<=k->Q)->(l.length<=k->Q)->Q:=fun h1 G=>o.elim (fun q=>h1 q.1 q.2) G;clear o;refine m (fun g1 g2=>?_) (fun g1=>?_);all_goals (
    clear m;go_wp2_with fail;go_loop [6] (fun i=>∃j:Nat,j<=W.length/\j<=14/\i= .int .i64 j/\o4 W j) (fun i=>W.length-(intOf i).toNat);case atStart=>exact⟨0,zero_le _,zero_le _,rfl,fun j s g=>absurd g (not_lt_zero _)⟩
    case round=>
     obtain⟨j,g,N,rfl,r⟩:=hrel;have B:=bP r;clear r;by_cases a:j<W.length/\j<14
     .obtain⟨a,hm⟩:=a;obtain⟨b,off,rfl,I,d⟩:=hw.strs (by omega);have k0:=d j a;have L:=t _ (getElem_mem a);obtain⟨x,c⟩:∃x,x=W[j]:=⟨_,rfl⟩;have y:=bP (show W[j]?=some x by rw[c];exact getElem?_eq_getElem a);rw[<-c]at k0 L;clear d c;by_cases f:x.size<=200
      .have v:=bP (B.out.step y.out f);go_wp2;exact⟨⟨j+1,by omega,by omega,by go_num,v.out⟩,by simp[intOf];omega⟩
      .go_wp2;go_ret;exact⟨kE _,rfl⟩
     .by_cases g3:j<W.length
      .have g4:14<=j:=by omega
       clear a;go_wp2;all_goals (go_ret;first |exact⟨kE _,rfl⟩ |exact⟨jf (fun h=>by first |(exfalso;revert h;simp;omega) |(exfalso;simp at h;omega)),rfl⟩)
      .have u:=bP (show(l.length<=110->l.length<=k)/\W.length<=j/\W.length<=14 from by omega);clear a;go_wp2;all_goals (go_ret;first |exact⟨kE _,rfl⟩ |exact⟨jf (fun h=>by
        have n:l.length<=110:=by first |omega |(simp at h;omega)
        exact Ci n u.out.2.2 (u.out.1 n) u.out.2.1 A.out B.out),rfl⟩))
attribute [local go_sem] gB fU
theorem AJ (A:cr)(v:Value)(w:World)(hA:cH w w.heap.size v A):
  Calls prog 172 #[v] w (vx A w):=by
 have bf:=hA;obtain⟨Q,lc,sa,sc,rfl,hn,b5,ca,b7,H,cb⟩:=hA;obtain⟨i,T⟩:∃i:World,i=(w.alloc (.cells #[.string A.name,.slice Q A.letters.length lc,.slice sa A.small.length sc] 83)).alloc (.cells #[.int .i64 0,.int .i64 0,.slice none 0 0,.slice none 0 0] 98):=⟨_,rfl⟩;obtain⟨c,J⟩:∃b,w.heap.size=b:=⟨_,rfl⟩;have a8:Below c w i:=by rw[T,<-J];exact(bX.alloc bW _).alloc (by simp) _
 have a7:i.heap.size=c+2:=by rw[T,<-J];simp
 have kA:Blk i c #[.string A.name,.slice Q A.letters.length lc,.slice sa A.small.length sc] 83:=by rw[T,<-J];exact(Blk.new _ _ _).alloc _
 have kR:Blk i (c+1) #[.int .i64 0,.int .i64 0,.slice none 0 0,.slice none 0 0] 98:=by
  rw[T,<-J];have:=Blk.new (w.alloc (.cells #[.string A.name,.slice Q A.letters.length lc,.slice sa A.small.length sc] 83)) #[.int .i64 0,.int .i64 0,.slice none 0 0,.slice none 0 0] 98;simpa using this
 have HM:=bP (fun(wr:World) (V:Below (c+2) i wr)=>And.intro (kA.below V (by omega)) (kR.below V (by omega)));have HA:=bP (fun(wr:World) (V:Below (c+2) i wr)=>(show cH wr wr.heap.size (.agg #[.string A.name,.slice Q A.letters.length lc,.slice sa A.small.length sc]) A/\b8 wr wr.heap.size Q (strs A.letters)from by
  have h1:Below w.heap.size w wr:=by rw[J];exact a8.trans (V.mono (by omega))
  exact⟨(bf.below h1 bW).more h1.size,(H.below h1 bW).more h1.size⟩))
 have HW:=bT T a8 a7 J;clear T a8 a7 kA kR bf H cb b7;unfold maxLen at b5 ca hn;go_enter func172,ntmps172;go_upto_region 1 with (fail);clear J;have hW:=HW.out.1;rw[<-hW];clear hW;obtain⟨bR,aV⟩:∃b,b=c+1:=⟨_,rfl⟩;rw[<-aV];have HM:=bP (fun(wr:World) (V:Below (c+2) i wr)=>(show Blk wr c #[.string A.name,.slice Q A.letters.length lc,.slice sa A.small.length sc] 83/\Blk wr bR #[.int .i64 0,.int .i64 0,.slice none 0 0,.slice none 0 0] 98 from by rw[aV];exact HM.out wr V));have cF:c<bR/\bR<c+2:=by omega
 clear aV;obtain⟨G, -⟩:=HM.out i bX;have m0:i.cell? ⟨c,0,none⟩=some (.string A.name):=G.cell 0;have m1:i.cell? ⟨c,1,none⟩=some (.slice Q A.letters.length lc):=G.cell 1;have m2:i.cell? ⟨c,2,none⟩=some (.slice sa A.small.length sc):=G.cell 2;clear G;go_wp2_with fail;refine(jm A _ i (HA.out i bX).1).mono ?_;clear m0 m1 m2;rintro e r ⟨rfl,U⟩;rw[HW.out.2.2.1]at U;obtain⟨G,d⟩:=HM.out r U;have aa:c+2<=r.heap.size:=by have:=U.size;have:=HW.out.2.2.1;omega
 by_cases hv:cG A;case neg=>
  rw[decide_eq_false hv];have z0:r.cell? ⟨bR,0,none⟩=some (.int .i64 0):=d.cell 0;have z1:r.cell? ⟨bR,1,none⟩=some (.int .i64 0):=d.cell 1;have z2:r.cell? ⟨bR,2,none⟩=some (.slice none 0 0):=d.cell 2;have z3:r.cell? ⟨bR,3,none⟩=some (.slice none 0 0):=d.cell 3;have fz:∀j,r.frozen? ⟨bR,j,none⟩=false:=fun j=>d.frozen j;have an:Below c w r:=HW.out.2.1.trans (U.mono (by omega));have M:=an.trans ((nZ r bR (.int .i64 0) (.int .i64 0) (.slice none 0 0) (.slice none 0 0)).below (B:=c) (fun k hk=>by omega) (by omega));rw[<-HW.out.2.2.2]at M;have bK:=bP M;have bM:=bP hv;clear G d an M hv;go_wp2_with fail;refine bodyPost_ret (v:= .tuple #[.agg #[.int .i64 0,.int .i64 0,.slice none 0 0,.slice none 0 0],.int .i64 1]) (by simp[results,results172,go_sem,z0,z1,z2,z3]) rfl ?_;exact⟨_,ff,1,rfl,uQ _ _,bK.out,.inl ⟨bM.out,rfl,rfl⟩⟩
 rw[decide_eq_true hv];have HV:=bP hv;have m1:r.cell? ⟨c,1,none⟩=some (.slice Q A.letters.length lc):=G.cell 1;have aC:=bP U;clear G d hv U;go_upto_region 4 with (fail);generalize aF:((r.alloc _).alloc _)=W3;obtain⟨n0,X⟩:∃b,r.heap.size=b:=⟨_,rfl⟩;have kF:Blk W3 n0 #[.int .i64 1] 3:=by rw[<-aF,<-X];exact(Blk.new _ _ _).alloc _
 have kO:Blk W3 (n0+1) #[.int .i64 2,.int .i64 0,.slice (some ⟨n0,0,none⟩) 1 1,.slice none 0 0] 98:=by
  rw[<-aF,<-X];have:=Blk.new (r.alloc (.cells #[.int .i64 1] 3)) #[.int .i64 2,.int .i64 0,.slice (some ⟨r.heap.size,0,none⟩) 1 1,.slice none 0 0] 98;simpa using this
 have aU:Below n0 r W3:=by rw[<-aF,<-X];exact(bX.alloc bW _).alloc (by simp) _
 have aP:RS W3 n0 (n0+1) 2 0 [1] [] (.slice (some ⟨n0,0,none⟩) 1 1) (.slice none 0 0):=
  ⟨⟨kO,⟨rfl,.inr ⟨n0,1,_,rfl,bW,kF,bW,by unfold maxLen;omega,rfl,rfl⟩⟩,ownsRow_nil _ _ _ _⟩,ownsRow_nil _ _ _ _,by omega⟩
 rw[X]at aa⊢;have ch:W3.cell? ⟨c,1,none⟩=some (.slice Q A.letters.length lc):=(aU.cell (p:=⟨c,1,none⟩) (by show c<n0;omega)).trans m1;obtain⟨bO,bk⟩:∃b,b=n0+1:=⟨_,rfl⟩;rw[<-bk]at aP⊢;have cK:n0<bO/\bO<=n0+1:=by omega
 have H3:=bS aP aU X;clear aF kF kO aU aP X m1 bk;go_wp2_with fail;have hlen:A.bls.length=A.letters.length:=by unfold cr.bls;rw[length_map]
 have cE:A.letters.length<=64:=HV.out.1.2.2.1;have bh:∀l∈A.bls,1<=l.length/\l.length<=3:=(fC HV.out).len;have t:=bQ hlen bh;clear hlen bh ch;obtain⟨ja,ad,ae,af,ai⟩:=info_parts mn;go_loopw [5,6] (fun av s6 wr=>∃k:Nat,k<=A.letters.length/\s6= .int .i64 k/\RS wr n0 bO ((cpS A.bls k:Nat):Int) 0 [1] (cpA A.bls k) (.slice (some ⟨n0,0,none⟩) 1 1) av/\Below n0 r wr) (fun _ s6 _=>A.letters.length-(intOf s6).toNat);case atStart=>exact⟨0,zero_le _,rfl,H3.out.1,H3.out.2.1⟩
 case round=>
  obtain⟨k,hk,rfl,hO,u⟩:=hrel;obtain⟨av,b3⟩:∃av,av=u5:=⟨_,rfl⟩;subst b3;by_cases ar:k<A.letters.length
  .have O:=(HA.out wr (aC.out.trans (u.mono aa))).2;obtain⟨lb,lo,rfl, -,bw⟩:=O.strs (by omega);have x0:=bw k ar;have m1:wr.cell? ⟨c,1,none⟩=some (.slice (some ⟨lb,lo,none⟩) A.letters.length lc):=(HM.out wr (aC.out.trans (u.mono aa))).1.cell 1;have bq:A.bls[k]'(by rw[t.out.1];exact ar)=bl A.letters[k]:=by simp[cr.bls]
   have N:A.bls[k]'(by rw[t.out.1];exact ar)∈A.bls:=getElem_mem _;have Z:=vZ (LS:=A.bls) (k:=k) (by rw[t.out.1];exact ar);have I:=ru (LS:=A.bls) (k:=k) (by rw[t.out.1];exact ar);have a6:=t.out.2 _ N;rw[bq]at Z I a6;obtain⟨s,hs⟩:∃s,A.letters[k]=s:=⟨_,rfl⟩;rw[hs]at x0 Z I a6;have M:(bl s).length=s.size:=by unfold bl;simp
   have aW:cpS A.bls k<=130:=by
    have h1:=im (A.bls.take k) 2 (fun l H=>(t.out.2 l (mem_of_mem_take H)).2);have h2:(A.bls.take k).length<=64:=by rw[length_take,t.out.1];omega
    unfold cpS;omega
   have aO:(cpA A.bls k).length<=384:=by
    have:=nC (fun l H=>(t.out.2 l H).2) k (by rw[t.out.1];omega);omega
   obtain⟨b,bp⟩:∃b,cpS A.bls k=b:=⟨_,rfl⟩;obtain⟨L,R⟩:∃L,cpA A.bls k=L:=⟨_,rfl⟩;rw[bp]at hO Z I aW;rw[R]at hO I aO;rw[M]at a6 Z I;have HK:=bS Z I M;have HR:=bQ hO u;clear O bw bq N Z I hs bp R hO u M;obtain⟨wo,rfl⟩:∃wo:World,wo=wr:=⟨_,rfl⟩;go_wp2_with fail;clear x0 m1;go_loopw [5,8,9] (fun bN s8 s9 wx=>∃(j:Nat) (z:Int),j<=s.size/\s9= .int .i64 j/\s8= .int .i64 z/\(j<s.size->z=eR b j)/\RS wx n0 bO ((b+min j (s.size-1):Nat):Int) 0 [1] (L++fr (bl s) b j) (.slice (some ⟨n0,0,none⟩) 1 1) bN/\Below n0 r wx) (fun _ _ s9 _=>s.size-(intOf s9).toNat);case atStart=>exact⟨0,0,zero_le _,rfl,rfl,fun _=>rfl,by simpa [fr]using HR.out.1,HR.out.2⟩
   case round=>
    obtain⟨j,z,cI,rfl,rfl,hz,hO,u⟩:=hrel;by_cases br:j<s.size
    .have o0:wr.cell? ⟨bO,0,none⟩=some (.int .i64 ((b+min j (s.size-1):Nat):Int)):=hO.1.blk.cell 0;have ck:=hO.1.blk.frozen 0;obtain rfl:=hz br;have F:dv (bl s) j=((s[j].toNat:Nat):Int):=by unfold dv;rw[dU s j br]
     have b4:=ry (bl s) b j;obtain⟨g,aD⟩:∃g,L++fr (bl s) b j=g:=⟨_,rfl⟩;have cJ:g.length<=400:=by rw[<-aD,length_append];omega
     have Y:L++fr (bl s) b (j+1)=g++fY (bl s) b j:=by rw[px,<-append_assoc,aD]
     rw[aD]at hO;obtain⟨xa,xc,rfl, -, -⟩:=b8.ah hO.2.1;clear aD b4 hz;have bu:wrap64 ((s[j].toNat:Nat):Int)=((s[j].toNat:Nat):Int):=by
      have h1:=s[j].toNat_lt;unfold wrap64;omega
     by_cases b6:j+1<s.size
     .have q:((b+min (j+1) (s.size-1):Nat):Int)=((b:Int)+(j:Int)+1):=by omega
      have f:gh (bl s) b j=((b:Int)+(j:Int)):=by rw[pO (by rw[HK.out.2.2];exact b6)];omega
      have aw:j+1<s.size->((b:Int)+(j:Int))=eR b (j+1):=fun h=>by rw[<-f];exact(mL (by rw[HK.out.2.2];exact h)).symm
      have aq:j≠0->L++fr (bl s) b (j+1)=g++[⟨eR b j,(s[j].toNat:Nat),(s[j].toNat:Nat),((b:Int)+(j:Int))⟩]:=fun h=>by
       rw[Y];unfold fY;rw[if_neg h,F,f]
      have ao:j=0->L++fr (bl s) b (j+1)=(g++[⟨eR b j,(s[j].toNat:Nat),(s[j].toNat:Nat),((b:Int)+(j:Int))⟩])++[⟨1,(s[j].toNat:Nat),(s[j].toNat:Nat),((b:Int)+(j:Int))⟩]:=fun h=>by
       have h1:dv (bl s) 0=((s[j].toNat:Nat):Int):=by rw[<-F,h]
       have h2:gh (bl s) b 0=((b:Int)+(j:Int)):=by rw[<-f,h]
       rw[Y];unfold fY;rw[if_pos h,F,f,h1,h2];simp
      have E:=bT q aw aq ao;have e1:IntKind.i64.wrap (((b+j:Nat):Int)+1)=((b+(j+1):Nat):Int):=by rw[IntWalk.i64_in _ (by omega)];omega
      have a1:min j (s.size-1)=j:=by omega
      rw[a1]at o0 hO;have aE:=hO.ag ((b:Int)+(j:Int)+1);have Hb:=bP u;clear q f aw aq ao hO u F Y a1;go_upto_region 17 with (fail);generalize aT:wr.setCell ⟨bO,0,none⟩ _=m at aE⊢;have HO:=bQ aE.1 (Hb.out.trans aE.2);clear aT aE o0 ck;go_wp2_with (at_builtin;refine wpList_append_own_at _ rfl _ _ 96 rfl n0 171 ja _ 4 32 underlying96 ad ae af ai rfl (by decide) _ _ _ rfl (HO.out.1.2.1.alloc _) ⟨m.heap.size,0,none⟩ 1 1 [.int .i64 (eR b j),.int .i64 (s[j].toNat:Nat),.int .i64 (s[j].toNat:Nat),.int .i64 ((b:Int)+(j:Int))] rfl rfl (by exact dQ _ _ _) (by simp[Value.oneCell']) (by unfold maxLen;omega) (by omega) (by have:=HO.out.1.1.blk.lt;simp;omega) ?_);intro v5 w5 a n _ _;have h5:=HO.out.1.aN (x:=⟨eR b j,(s[j].toNat:Nat),(s[j].toNat:Nat),(b:Int)+(j:Int)⟩) a n;have D:=bQ h5.1 (HO.out.2.trans h5.2);obtain⟨ba,bb,rfl, -, -⟩:=b8.ah a;clear a n h5;by_cases y:j=0
      .have d1:((j:Int)==0)=true:=by simp[y]
       have Hj:=bP y;have au:(g++[(⟨eR b j,(s[j].toNat:Nat),(s[j].toNat:Nat),(b:Int)+(j:Int)⟩:Arc)]).length=g.length+1:=by simp
       have ak:=bP (show w5.ownsRow n0 171 4 (.slice ba (g.length+1) bb) (g.length+1) (flat (g++[(⟨eR b j,(s[j].toNat:Nat),(s[j].toNat:Nat),(b:Int)+(j:Int)⟩:Arc)]))from by have:=D.out.1.2.1;rwa [au]at this);clear y;go_wp2_with (at_builtin;refine wpList_append_own_at _ rfl _ _ 96 rfl n0 171 ja _ 4 32 underlying96 ad ae af ai rfl (by decide) _ _ _ rfl (ak.out.alloc _) ⟨w5.heap.size,0,none⟩ 1 1 [.int .i64 1,.int .i64 (s[j].toNat:Nat),.int .i64 (s[j].toNat:Nat),.int .i64 ((b:Int)+(j:Int))] rfl rfl (by exact dQ _ _ _) (by simp[Value.oneCell']) (by unfold maxLen;omega) (by omega) (by have:=D.out.1.1.blk.lt;simp;omega) ?_);intro v6 w6 C o _ _;have h6:=D.out.1.aN (x:=⟨1,(s[j].toNat:Nat),(s[j].toNat:Nat),(b:Int)+(j:Int)⟩) (by rw[au];exact C) o;have H6:=bQ h6.1 (D.out.2.trans h6.2);clear C o h6 ak;go_wp2_with fail;exact⟨⟨j+1,_,by omega,by go_num,rfl,E.out.2.1,by rw[E.out.1,E.out.2.2.2 Hj.out];exact H6.out.1,H6.out.2⟩,by simp[intOf];omega⟩
      .have d1:((j:Int)==0)=false:=by simp;omega
       have Hj:=bP y;go_wp2_with fail;exact⟨⟨j+1,_,by omega,by go_num,rfl,E.out.2.1,by rw[E.out.1,E.out.2.2.1 Hj.out];exact D.out.1,D.out.2⟩,by simp[intOf];omega⟩
     .have q:((b+min (j+1) (s.size-1):Nat):Int)=((b+min j (s.size-1):Nat):Int):=by omega
      have f:gh (bl s) b j=1:=by exact sA (by rw[HK.out.2.2];omega)
      have aw:j+1<s.size->1=eR b (j+1):=fun h=>by rw[<-f];exact(mL (by rw[HK.out.2.2];exact h)).symm
      have aq:j≠0->L++fr (bl s) b (j+1)=g++[⟨eR b j,(s[j].toNat:Nat),(s[j].toNat:Nat),1⟩]:=fun h=>by
       rw[Y];unfold fY;rw[if_neg h,F,f]
      have ao:j=0->L++fr (bl s) b (j+1)=(g++[⟨eR b j,(s[j].toNat:Nat),(s[j].toNat:Nat),1⟩])++[⟨1,(s[j].toNat:Nat),(s[j].toNat:Nat),1⟩]:=fun h=>by
       have h1:dv (bl s) 0=((s[j].toNat:Nat):Int):=by rw[<-F,h]
       have h2:gh (bl s) b 0=1:=by rw[<-f,h]
       rw[Y];unfold fY;rw[if_pos h,F,f,h1,h2];simp
      have E:=bT q aw aq ao;obtain⟨m,rfl⟩:∃m:World,m=wr:=⟨_,rfl⟩;have HO:=bQ hO u;clear q f aw aq ao hO u F Y;go_wp2_with (at_builtin;refine wpList_append_own_at _ rfl _ _ 96 rfl n0 171 ja _ 4 32 underlying96 ad ae af ai rfl (by decide) _ _ _ rfl (HO.out.1.2.1.alloc _) ⟨m.heap.size,0,none⟩ 1 1 [.int .i64 (eR b j),.int .i64 (s[j].toNat:Nat),.int .i64 (s[j].toNat:Nat),.int .i64 (1)] rfl rfl (by exact dQ _ _ _) (by simp[Value.oneCell']) (by unfold maxLen;omega) (by omega) (by have:=HO.out.1.1.blk.lt;simp;omega) ?_);intro v5 w5 a n _ _;have h5:=HO.out.1.aN (x:=⟨eR b j,(s[j].toNat:Nat),(s[j].toNat:Nat),1⟩) a n;have D:=bQ h5.1 (HO.out.2.trans h5.2);obtain⟨ba,bb,rfl, -, -⟩:=b8.ah a;clear a n h5;by_cases y:j=0
      .have d1:((j:Int)==0)=true:=by simp[y]
       have Hj:=bP y;have au:(g++[(⟨eR b j,(s[j].toNat:Nat),(s[j].toNat:Nat),1⟩:Arc)]).length=g.length+1:=by simp
       have ak:=bP (show w5.ownsRow n0 171 4 (.slice ba (g.length+1) bb) (g.length+1) (flat (g++[(⟨eR b j,(s[j].toNat:Nat),(s[j].toNat:Nat),1⟩:Arc)]))from by have:=D.out.1.2.1;rwa [au]at this);clear y;go_wp2_with (at_builtin;refine wpList_append_own_at _ rfl _ _ 96 rfl n0 171 ja _ 4 32 underlying96 ad ae af ai rfl (by decide) _ _ _ rfl (ak.out.alloc _) ⟨w5.heap.size,0,none⟩ 1 1 [.int .i64 1,.int .i64 (s[j].toNat:Nat),.int .i64 (s[j].toNat:Nat),.int .i64 (1)] rfl rfl (by exact dQ _ _ _) (by simp[Value.oneCell']) (by unfold maxLen;omega) (by omega) (by have:=D.out.1.1.blk.lt;simp;omega) ?_);intro v6 w6 C o _ _;have h6:=D.out.1.aN (x:=⟨1,(s[j].toNat:Nat),(s[j].toNat:Nat),1⟩) (by rw[au];exact C) o;have H6:=bQ h6.1 (D.out.2.trans h6.2);clear C o h6 ak;go_wp2_with fail;exact⟨⟨j+1,_,by omega,by go_num,rfl,E.out.2.1,by rw[E.out.1,E.out.2.2.2 Hj.out];exact H6.out.1,H6.out.2⟩,by simp[intOf];omega⟩
      .have d1:((j:Int)==0)=false:=by simp;omega
       have Hj:=bP y;go_wp2_with fail;exact⟨⟨j+1,_,by omega,by go_num,rfl,E.out.2.1,by rw[E.out.1,E.out.2.2.1 Hj.out];exact D.out.1,D.out.2⟩,by simp[intOf];omega⟩
    .obtain rfl:j=s.size:=by omega
     have q:b+min s.size (s.size-1)=b+s.size-1:=by omega
     rw[q]at hO;have HZ:=bQ hO u;clear hO u q hz;go_wp2_with fail;exact⟨⟨k+1,by omega,by go_num,by rw[HK.out.1,HK.out.2.1];exact HZ.out.1,HZ.out.2⟩,by simp[intOf];omega⟩
  .obtain rfl:k=A.letters.length:=by omega
   obtain⟨wi,rfl⟩:∃wi:World,wi=wr:=⟨_,rfl⟩;have m1:wi.cell? ⟨c,1,none⟩=some (.slice Q A.letters.length lc):=(HM.out wi (aC.out.trans (u.mono aa))).1.cell 1;have aR:cpS A.bls A.letters.length=de 2 A.bls:=by unfold cpS;rw[<-t.out.1,take_length]
   have bg:cpA A.bls A.letters.length=gN 2 A.bls:=by unfold cpA;rw[<-t.out.1,take_length]
   have aO:(cpA A.bls A.letters.length).length<=384:=by
    have:=nC (fun l H=>(t.out.2 l H).2) A.letters.length (by rw[t.out.1];omega);omega
   have aW:de 2 A.bls<=130:=by
    have h1:=im A.bls 2 (fun l H=>(t.out.2 l H).2);rw[t.out.1]at h1;omega
   have aY:∀S,gI (cpA A.bls A.letters.length) S->mD A.bls ⟨(de 2 A.bls:Nat),0,[1],S⟩:=fun S hS=>se (fun l H=>(t.out.2 l H).1) (by rw[<-bg];exact hS);have ay:=bP aY;obtain⟨st,q⟩:∃st,de 2 A.bls=st:=⟨_,rfl⟩;obtain⟨L,R⟩:∃L,cpA A.bls A.letters.length=L:=⟨_,rfl⟩;rw[q]at aR aW ay;rw[aR,R]at hO;rw[R]at aO ay;clear aY aR bg q R;have bm:Below (c+2) i wi:=aC.out.trans (u.mono aa);have HQ:=bQ hO bm;obtain⟨bV,bY,rfl, -,O⟩:=b8.ah hO.2.1;clear hO u bm;go_wp2_with fail;refine(o7 L bV bY (by omega) wi O).mono ?_;clear O m1;rintro e w5 ⟨v5,S,rfl,aZ,N,a,bj⟩;obtain⟨q1,q2,q3,q4,q5⟩:=HQ.out.1.sorted bj a;obtain⟨aS,cS,rfl, -, -⟩:=b8.ah a;have f:=HQ.out.1.1.blk.lt;have q6:Below (c+2) i (w5.setCell ⟨bO,3,none⟩ (.slice aS S.length cS)):=HQ.out.2.trans (q4.mono aa);have hS:gI L S:=⟨aZ,N⟩;have cw:=hS.len;have o3:w5.cell? ⟨bO,3,none⟩=some (.slice none 0 0):=q5.cell 3;have cm:=q5.frozen 3;have P:=bU (ay.out S hS) q1 q2 q3 q6;clear aZ N a bj q1 q2 q3 q4 q5 q6 hS;go_upto_region 23 with (fail);generalize aT:w5.setCell ⟨bO,3,none⟩ _=m at P⊢;clear aT o3 cm;have o0:m.cell? ⟨bO,0,none⟩=some (.int .i64 (st:Nat)):=P.out.2.1.cell 0;have o1:m.cell? ⟨bO,1,none⟩=some (.int .i64 0):=P.out.2.1.cell 1;have o2:m.cell? ⟨bO,2,none⟩=some (.slice (some ⟨n0,0,none⟩) 1 1):=P.out.2.1.cell 2;have o3:m.cell? ⟨bO,3,none⟩=some (.slice aS S.length cS):=P.out.2.1.cell 3;obtain⟨-,d⟩:=HM.out m P.out.2.2.2.2;have z0:m.cell? ⟨bR,0,none⟩=some (.int .i64 0):=d.cell 0;have z1:m.cell? ⟨bR,1,none⟩=some (.int .i64 0):=d.cell 1;have z2:m.cell? ⟨bR,2,none⟩=some (.slice none 0 0):=d.cell 2;have z3:m.cell? ⟨bR,3,none⟩=some (.slice none 0 0):=d.cell 3;have fz:∀j,m.frozen? ⟨bR,j,none⟩=false:=fun j=>d.frozen j;obtain⟨_,_,e1, -,bt⟩:=b8.ah P.out.2.2.2.1;injection e1 with e1 _ bZ;subst e1 bZ;have aX:=nZ m bR (.int .i64 (st:Nat)) (.int .i64 0) (.slice (some ⟨n0,0,none⟩) 1 1) (.slice aS S.length cS);have Hm:=bP ((ui (fl:=[1]) (fva:=some ⟨n0,0,none⟩) (fvc:=1) (st:=(st:Nat)) (s0:=0) (cS:=cS) d P.out.2.2.1 bt (by unfold maxLen;omega) (by simp[maxLen])).2 _ aX);have bL:=bP aX;clear aX bt d;go_wp2_with fail;refine bodyPost_ret (v:= .tuple #[.agg #[.int .i64 (st:Nat),.int .i64 0,.slice (some ⟨n0,0,none⟩) 1 1,.slice aS S.length cS],.int .i64 0]) (by simp[results,results172,go_sem,z0,z1,z2,z3]) rfl ?_;refine⟨_,_,0,rfl,Hm.out,?_,.inr ⟨HV.out,rfl,P.out.1⟩⟩;have an:=P.out.2.2.2.2;have bu:=HW.out.2.2.2;rw[bu];exact(HW.out.2.1.trans (an.mono (by omega))).trans (bL.out.below (fun k hk=>by omega) (by have:=an.size;have:=HW.out.2.2.1;omega))
end
section
open Go.RowKit Go.Shelf Classical
def tM (b:cC)(i j:Nat)(w:World)(e:Ending)(w':World):Prop:=
 ∃v M,e= .returned v/\dx w' w'.heap.size v M/\fg b i j M/\Below w.heap.size w w'
theorem uK (w:World)(x y p q r s:Value){W:World}(a:W=(w.alloc (.cells #[x,y] 25)).alloc (.cells #[p,q,r,s] 98)):
  Below w.heap.size w W/\W.heap.size=w.heap.size+2/\Blk W w.heap.size #[x,y] 25/\Blk W (w.heap.size+1) #[p,q,r,s] 98:=by
 subst a;refine⟨(bX.alloc bW _).alloc (by simp) _,by simp,(Blk.new _ _ _).alloc _,?_⟩;have:=Blk.new (w.alloc (.cells #[x,y] 25)) #[p,q,r,s] 98;simpa using this
theorem Ei {b:cC}{i j:Nat}{A B:cr}(c:b.ae[i]?=some A)(d:b.ae[j]?=some B)(h:∃r,gu b i j r):∃k r,k<b.rules.length/\b.rules[k]?=some r/\gu b i j r/\eo b A B=(k:Int):=by
 obtain⟨r,e,n,B',h1,a⟩:=h;obtain rfl:=Option.some.inj (c.symm.trans h1.1);obtain rfl:=Option.some.inj (d.symm.trans a.1);rcases fV b A B with ⟨_,q⟩ |⟨k,s,f,q1,g,l,_,m⟩
 .exact absurd ⟨h1.2.symm,a.2.symm⟩ (q r e)
 .exact⟨k,s,f,q1,⟨mem_of_getElem? q1,A,B,⟨c,g.symm⟩,⟨d,l.symm⟩⟩,m⟩
set_option maxRecDepth 100000
set_option maxHeartbeats 4000000
theorem BY (b:cC)(i j:Nat)(v:Value)(w:World)(hv:cU b)(h:dm w w.heap.size v b)(hi:i<b.ae.length)(hj:j<b.ae.length)(ad:i≠j->∃r,gu b i j r):
  Calls prog 103 #[v,.int .i64 i,.int .i64 j] w (tM b i j w):=by
 have aO:=h;obtain⟨a,c,a',c',rfl,bu,bw,hA,hR⟩:=h;unfold maxLen at bu bw;obtain⟨A,P⟩:∃A,b.ae[i]?=some A:=⟨_,getElem?_eq_getElem hi⟩;obtain⟨B,X⟩:∃B,b.ae[j]?=some B:=⟨_,getElem?_eq_getElem hj⟩;obtain⟨d,ah⟩:∃d:World,d=(w.alloc (.cells #[.slice a b.ae.length c,.slice a' b.rules.length c'] 25)).alloc (.cells #[.int .i64 0,.int .i64 0,.slice none 0 0,.slice none 0 0] 98):=⟨_,rfl⟩;obtain⟨G,bz,aG,aH⟩:=uK w _ _ _ _ _ _ ah;obtain⟨g,o,la,lc,sa,sc,rfl,hg,p0,p1,p2,aE⟩:=((hA.below G bW).more G.size).get P;obtain⟨g',o',lb,gc,sb,tc,e9,bZ,q0,q1,q2,aP⟩:=((hA.below G bW).more G.size).get X;cases e9
 have x0:d.cell? ⟨w.heap.size,0,none⟩=some (.slice (some ⟨g,o,none⟩) b.ae.length c):=aG.cell 0;have x1:d.cell? ⟨w.heap.size,1,none⟩=some (.slice a' b.rules.length c'):=aG.cell 1;have ba:w.heap.size<d.heap.size:=by omega
 have bg:w.heap.size+1<d.heap.size:=by omega
 by_cases Y:i=j
 .have d1:((i:Int)==(j:Int))=true:=by rw[Y];simp
  have hC:=bP (AJ A _ d aE);have aD:=bS Y P hv;have V:=bP G;clear Y hv aE aP hA hR aO ad P X q0 q1 q2 G;go_enter func103,ntmps103;go_upto_region 1 with (fail);rw[<-ah];clear ah;go_wp2_with fail;refine hC.out.mono ?_;rintro e w1 ⟨v1,M,err,rfl,bb,aR,br⟩;have af:=aD.out.2.2.scr.aI A (mem_of_getElem? aD.out.2.1);rcases br with ⟨n,_⟩ |⟨_,rfl,a7⟩
  .exact absurd af n
  have a1:=bb;obtain⟨fa,fc,aa,ac,rfl, -, -, -, -⟩:=bb;have F:fg b i j M:=⟨A,aD.out.2.1,.inl ⟨aD.out.1,a7⟩⟩;have f:=aH.below aR (by omega);have bK:=aR.size;have Z:=bP (fun W hW=>fS f a1 F.final (W:=W) hW);have aN:=bP F;have r0:w1.cell? ⟨w.heap.size+1,0,none⟩=some (.int .i64 0):=f.cell 0;have r1:w1.cell? ⟨w.heap.size+1,1,none⟩=some (.int .i64 0):=f.cell 1;have r2:w1.cell? ⟨w.heap.size+1,2,none⟩=some (.slice none 0 0):=f.cell 2;have r3:w1.cell? ⟨w.heap.size+1,3,none⟩=some (.slice none 0 0):=f.cell 3;have f0:=f.frozen 0;have f1:=f.frozen 1;have f2:=f.frozen 2;have f3:=f.frozen 3;have bJ:w.heap.size+1<w1.heap.size:=by omega
  have aC:=bP (V.out.trans (aR.mono V.out.size));have b1:=V.out.size;clear f a1 a7 F aH aG x0 x1;go_wp2_with fail;obtain⟨bt,bx⟩:=Z.out _ rfl;have hk:=bt.alloc (.cells #[.int .i64 M.ag,.int .i64 M.start,.slice fa M.final.length fc,.slice aa M.arcs.length ac] 98);have hm:=(bx.more (B':=_) (show w1.heap.size<=_ from by simp)).below (bX.alloc bW (.cells #[.int .i64 M.ag,.int .i64 M.start,.slice fa M.final.length fc,.slice aa M.arcs.length ac] 98)) bW;have m0:=hk.cell 0;have m1:=hk.cell 1;have m2:=hk.cell 2;have m3:=hk.cell 3;simp only[getElem?_toArray,getElem?_cons_zero,getElem?_cons_succ]at m0 m1 m2 m3;refine bodyPost_ret (v:= .agg #[.int .i64 M.ag,.int .i64 M.start,.slice fa M.final.length fc,.slice aa M.arcs.length ac]) (by simp[results,results103,go_sem,m0,m1,m2,m3]) rfl ?_;exact⟨_,M,rfl,hm.more (by simp),aN.out,(dh aC.out (b:=w.heap.size+1) (by omega) _ _ _ _).alloc (dh aC.out (b:=w.heap.size+1) (by omega) _ _ _ _).size _⟩
 .have d1:((i:Int)==(j:Int))=false:=by rw[beq_eq_false_iff_ne];omega
  obtain⟨k,r,b0,bc,aA,a6⟩:=Ei P X (ad Y);obtain⟨g2,o2,bA,bp,rfl,aS,t0,t1,t2,bd⟩:=((hR.below G bW).more G.size).get bc;have af:=(hv.aL aA P X).2;have N:=bP (fun(w':World) (O:Below d.heap.size d w')=>(show(w'.cell? ⟨w.heap.size,0,none⟩=some (.slice (some ⟨g,o,none⟩) b.ae.length c)/\w'.cell? ⟨w.heap.size,1,none⟩=some (.slice (some ⟨g2,o2,none⟩) b.rules.length c'))/\
    (w'.cell? ⟨g2,o2+k*3,none⟩=some (.string r.src)/\w'.cell? ⟨g2,o2+k*3+1,none⟩=some (.string r.dst)/\w'.cell? ⟨g2,o2+k*3+2,none⟩=some (.slice bA r.list.length bp))/\
    (w'.cell? ⟨g,o+i*3,none⟩=some (.string A.name)/\w'.cell? ⟨g,o+i*3+1,none⟩=some (.slice la A.letters.length lc)/\w'.cell? ⟨g,o+i*3+2,none⟩=some (.slice sa A.small.length sc))/\
    w'.cell? ⟨g,o+j*3,none⟩=some (.string B.name)/\w'.cell? ⟨g,o+j*3+1,none⟩=some (.slice lb B.letters.length gc)/\w'.cell? ⟨g,o+j*3+2,none⟩=some (.slice sb B.small.length tc)from by
   have q:∀(x y:Nat),x<d.heap.size->w'.cell? ⟨x,y,none⟩=d.cell? ⟨x,y,none⟩:=fun x y hx=>O.cell (p:=⟨x,y,none⟩) hx;exact⟨⟨(q _ _ ba).trans x0,(q _ _ ba).trans x1⟩,⟨(q _ _ aS).trans t0,(q _ _ aS).trans t1,(q _ _ aS).trans t2⟩,⟨(q _ _ hg).trans p0,(q _ _ hg).trans p1,(q _ _ hg).trans p2⟩,(q _ _ hg).trans q0,(q _ _ hg).trans q1,(q _ _ hg).trans q2⟩))
  have aZ:=bP (fun(w':World) (O:Below d.heap.size d w')=>(show Calls prog 82 #[.agg #[.slice (some ⟨g,o,none⟩) b.ae.length c,.slice (some ⟨g2,o2,none⟩) b.rules.length c'],.int .i64 i,.int .i64 j] w' (fun e w5=>e= .returned (.int .i64 k)/\Below w'.heap.size w' w5)from by
   rw[<-a6];have hx:=G.trans (O.mono G.size);exact j3 b _ i j A B P X w' ((aO.below hx bW).more hx.size)))
  have aM:=bP (fun(w':World) (O:Below d.heap.size d w')=>uS r A B _ _ _ w' ((bd.below O bW).more O.size) ((aE.below O bW).more O.size) ((aP.below O bW).more O.size));have aB:=bP (fun(M:cu) (E:gV r A M)=>(show fg b i j M from⟨A,P,.inr ⟨Y,r,aA,E⟩⟩));have ay:=bP af;have V:=bP G;have bk:=bP aH;clear Y hv hA hR aO ad P X bc aA a6 bd aE aP af G p0 p1 p2 q0 q1 q2 t0 t1 t2 aH aG bz;go_enter func103,ntmps103;go_upto_region 1 with (fail);rw[<-ah];clear ah x0 x1;go_upto_region 4 with (fail);go_cut [9] (fun p wx=>∃(z:Nat) (M:cu) (fa aa:Option Addr) (fc ac:Nat),p= .pointer (some ⟨z,0,none⟩)/\d.heap.size<=z/\Blk wx z #[.int .i64 M.ag,.int .i64 M.start,.slice fa M.final.length fc,.slice aa M.arcs.length ac] 98/\
   dx wx wx.heap.size (.agg #[.int .i64 M.ag,.int .i64 M.start,.slice fa M.final.length fc,.slice aa M.arcs.length ac]) M/\gV r A M/\Below d.heap.size d wx)
  case first=>
   refine wp_region_held_drew (S:=fun w'=>Below d.heap.size d w') (by kernel_rfl) (Go.below_drewN (Below.refl _ d) 1) (fun bF=>?_);have az:Below d.heap.size d d.drew:=Go.below_drewN (Below.refl _ d) 1;refine tk [0,1,2,3,4,8,9,10,11,12,13,14,15,16,17] ?_;repeat ((refine tkt (v:=?_) ?_ ?_;rotate_left;·intro w' m;obtain⟨⟨s0,s1⟩,⟨s2,s3,s4⟩,⟨s5,s6,s7⟩,s8,s9,R⟩:=N.out w' m;go_simp<;>with_reducible rfl);try simp only[pS])
   refine tkn ?_;refine rd2 5 22 (fun K hK=>?_) (fun K hK=>?_)
   .go_simp;go_at_call 82;refine(aZ.out _ az).mono ?_;rintro e T ⟨rfl,aF⟩;have D:Below d.heap.size d T:=Below.trans az (aF.mono az.size);refine hK.out _ _ D (fun _=>?_);clear hK K;try simp only[pS]
    refine tk [6,7] ?_;repeat ((refine tkt (v:=?_) ?_ ?_;rotate_left;·intro w' m;obtain⟨⟨s0,s1⟩,⟨s2,s3,s4⟩,⟨s5,s6,s7⟩,s8,s9,R⟩:=N.out w' m;go_simp<;>with_reducible rfl);try simp only[pS])
    refine tkn ?_;refine rd2 18 22 (fun K hK=>?_) (fun K hK=>?_)
    .go_simp;go_at_call 173;refine(aM.out _ D).mono ?_;rintro e C ⟨vM,M,err,rfl,hm,U, -,al⟩;obtain⟨rfl,E⟩:=al ay.out;have hM:=hm;obtain⟨fa,fc,aa,ac,rfl, -, -, -, -⟩:=hm;have l:Below d.heap.size d C:=Below.trans D (U.mono D.size);refine hK.out _ _ l (fun _=>?_);clear hK K;try simp only[pS]
     refine tk [19,20,21] ?_;repeat ((refine tkt (v:=?_) ?_ ?_;rotate_left;·intro w' m;obtain⟨⟨s0,s1⟩,⟨s2,s3,s4⟩,⟨s5,s6,s7⟩,s8,s9,R⟩:=N.out w' m;go_simp<;>with_reducible rfl);try simp only[pS])
     refine tkn ?_;refine rd1 22 (fun K hK=>?_);go_simp;refine hK.out _ _ (by exact l.alloc l.size _) (fun _=>?_);clear hK K;try simp only[pS]
     generalize H:(C.alloc _)=L;have u:Blk L C.heap.size #[.int .i64 0,.int .i64 0,.slice none 0 0,.slice none 0 0] 98:=by rw[<-H];exact Blk.new _ _ _
     have Q:Below C.heap.size C L:=by rw[<-H];exact bX.alloc bW _
     have J:Below d.heap.size d L:=l.trans (Q.mono l.size);have bq:=hM.below Q bW;have I:d.heap.size<=C.heap.size:=l.size;have bf:=Q.size;clear H Q;refine rd1 23 (fun K hK=>?_);have y0:L.cell? ⟨C.heap.size,0,none⟩=some (.int .i64 0):=u.cell 0;have y1:L.cell? ⟨C.heap.size,1,none⟩=some (.int .i64 0):=u.cell 1;have y2:L.cell? ⟨C.heap.size,2,none⟩=some (.slice none 0 0):=u.cell 2;have y3:L.cell? ⟨C.heap.size,3,none⟩=some (.slice none 0 0):=u.cell 3;have f0:=u.frozen 0;have f1:=u.frozen 1;have f2:=u.frozen 2;have f3:=u.frozen 3;have Z:=bP (fun W hW=>fS u bq (aB.out M E).final (W:=W) hW);go_simp;refine hK.out _ _ (by exact dh J I _ _ _ _) (fun _=>?_);clear hK K;try simp only[pS]
     refine tk [24] ?_;refine tkt (v:=?_) ?_ ?_;rotate_left
     .intro w' m;obtain⟨⟨s0,s1⟩,⟨s2,s3,s4⟩,⟨s5,s6,s7⟩,s8,s9,R⟩:=N.out w' m;go_simp<;>with_reducible rfl
     try simp only[pS]
     refine tkn ?_;refine wpAnyH_done (by kernel_rfl) ?_ _;go_wp2_with fail;go_meet;obtain⟨ai,ak⟩:=Z.out _ rfl;exact⟨_,M,fa,aa,fc,ac,rfl,I,ai,ak.more (by first |(simp;done) |(simp;omega)),E,dh J I _ _ _ _⟩
    .go_simp;refine hK.out _ _ (by exact D.alloc D.size _) (fun _=>?_);clear hK K;try simp only[pS]
     generalize H:(T.alloc _)=L;have u:Blk L T.heap.size #[.int .i64 0,.int .i64 0,.slice none 0 0,.slice none 0 0] 98:=by rw[<-H];exact Blk.new _ _ _
     have Q:Below T.heap.size T L:=by rw[<-H];exact bX.alloc bW _
     have J:Below d.heap.size d L:=D.trans (Q.mono D.size);have I:d.heap.size<=T.heap.size:=D.size;have bf:=Q.size;clear H Q;refine rd1 18 (fun K hK=>?_);go_simp;go_at_call 173;refine(aM.out _ J).mono ?_;rintro e C ⟨vM,M,err,rfl,hm,U, -,al⟩;obtain⟨rfl,E⟩:=al ay.out;have hM:=hm;obtain⟨fa,fc,aa,ac,rfl, -, -, -, -⟩:=hm;have l:Below d.heap.size d C:=Below.trans J (U.mono J.size);have s:=u.below U u.lt;refine hK.out _ _ l (fun _=>?_);clear hK K;try simp only[pS]
     refine tk [19,20,21] ?_;repeat ((refine tkt (v:=?_) ?_ ?_;rotate_left;·intro w' m;obtain⟨⟨s0,s1⟩,⟨s2,s3,s4⟩,⟨s5,s6,s7⟩,s8,s9,R⟩:=N.out w' m;go_simp<;>with_reducible rfl);try simp only[pS])
     refine tkn ?_;refine rd1 23 (fun K hK=>?_);have y0:C.cell? ⟨T.heap.size,0,none⟩=some (.int .i64 0):=s.cell 0;have y1:C.cell? ⟨T.heap.size,1,none⟩=some (.int .i64 0):=s.cell 1;have y2:C.cell? ⟨T.heap.size,2,none⟩=some (.slice none 0 0):=s.cell 2;have y3:C.cell? ⟨T.heap.size,3,none⟩=some (.slice none 0 0):=s.cell 3;have f0:=s.frozen 0;have f1:=s.frozen 1;have f2:=s.frozen 2;have f3:=s.frozen 3;have Z:=bP (fun W hW=>fS s hM (aB.out M E).final (W:=W) hW);go_simp;refine hK.out _ _ (by exact dh l I _ _ _ _) (fun _=>?_);clear hK K;try simp only[pS]
     refine tk [24] ?_;refine tkt (v:=?_) ?_ ?_;rotate_left
     .intro w' m;obtain⟨⟨s0,s1⟩,⟨s2,s3,s4⟩,⟨s5,s6,s7⟩,s8,s9,R⟩:=N.out w' m;go_simp<;>with_reducible rfl
     try simp only[pS]
     refine tkn ?_;refine wpAnyH_done (by kernel_rfl) ?_ _;go_wp2_with fail;go_meet;obtain⟨ai,ak⟩:=Z.out _ rfl;exact⟨_,M,fa,aa,fc,ac,rfl,I,ai,ak.more (by first |(simp;done) |(simp;omega)),E,dh l I _ _ _ _⟩
   .go_simp;refine hK.out _ _ (by exact((Below.refl _ d).alloc bW _).trans (Go.below_drewN bX 1)) (fun _=>?_);clear hK K;try simp only[pS]
    generalize H:(d.alloc _)=L;have a8:Blk L d.heap.size #[.int .i64 0,.int .i64 0,.slice none 0 0,.slice none 0 0] 98:=by rw[<-H];exact Blk.new _ _ _
    have J:Below d.heap.size d L.drew:=by rw[<-H];exact((Below.refl _ d).alloc bW _).trans (Go.below_drewN bX 1)
    have u:Blk L.drew d.heap.size #[.int .i64 0,.int .i64 0,.slice none 0 0,.slice none 0 0] 98:=a8;have I:d.heap.size<=d.heap.size:=bW;clear H a8;refine rd1 5 (fun K hK=>?_);go_simp;go_at_call 82;refine(aZ.out _ J).mono ?_;rintro e T ⟨rfl,aF⟩;have D:Below d.heap.size d T:=Below.trans J (aF.mono J.size);have s:=u.below aF u.lt;refine hK.out _ _ D (fun _=>?_);clear hK K;try simp only[pS]
    refine tk [6,7] ?_;repeat ((refine tkt (v:=?_) ?_ ?_;rotate_left;·intro w' m;obtain⟨⟨s0,s1⟩,⟨s2,s3,s4⟩,⟨s5,s6,s7⟩,s8,s9,R⟩:=N.out w' m;go_simp<;>with_reducible rfl);try simp only[pS])
    refine tkn ?_;refine rd1 18 (fun K hK=>?_);go_simp;go_at_call 173;refine(aM.out _ D).mono ?_;rintro e C ⟨vM,M,err,rfl,hm,U, -,al⟩;obtain⟨rfl,E⟩:=al ay.out;have hM:=hm;obtain⟨fa,fc,aa,ac,rfl, -, -, -, -⟩:=hm;have l:Below d.heap.size d C:=Below.trans D (U.mono D.size);have t:=s.below U s.lt;refine hK.out _ _ l (fun _=>?_);clear hK K;try simp only[pS]
    refine tk [19,20,21] ?_;repeat ((refine tkt (v:=?_) ?_ ?_;rotate_left;·intro w' m;obtain⟨⟨s0,s1⟩,⟨s2,s3,s4⟩,⟨s5,s6,s7⟩,s8,s9,R⟩:=N.out w' m;go_simp<;>with_reducible rfl);try simp only[pS])
    refine tkn ?_;refine rd1 23 (fun K hK=>?_);have y0:C.cell? ⟨d.heap.size,0,none⟩=some (.int .i64 0):=t.cell 0;have y1:C.cell? ⟨d.heap.size,1,none⟩=some (.int .i64 0):=t.cell 1;have y2:C.cell? ⟨d.heap.size,2,none⟩=some (.slice none 0 0):=t.cell 2;have y3:C.cell? ⟨d.heap.size,3,none⟩=some (.slice none 0 0):=t.cell 3;have f0:=t.frozen 0;have f1:=t.frozen 1;have f2:=t.frozen 2;have f3:=t.frozen 3;have Z:=bP (fun W hW=>fS t hM (aB.out M E).final (W:=W) hW);go_simp;refine hK.out _ _ (by exact dh l I _ _ _ _) (fun _=>?_);clear hK K;try simp only[pS]
    refine tk [24] ?_;refine tkt (v:=?_) ?_ ?_;rotate_left
    .intro w' m;obtain⟨⟨s0,s1⟩,⟨s2,s3,s4⟩,⟨s5,s6,s7⟩,s8,s9,R⟩:=N.out w' m;go_simp<;>with_reducible rfl
    try simp only[pS]
    refine tkn ?_;refine wpAnyH_done (by kernel_rfl) ?_ _;go_wp2_with fail;go_meet;obtain⟨ai,ak⟩:=Z.out _ rfl;exact⟨_,M,fa,aa,fc,ac,rfl,I,ai,ak.more (by first |(simp;done) |(simp;omega)),E,dh l I _ _ _ _⟩
  case rest=>
   obtain⟨z,M,fa,aa,fc,ac,rfl,hz,aj,hm,E,O⟩:=hcut;have F:=aB.out M E;have f:=bk.out.below O bg;have Z:=bP (fun W hW=>fS f hm F.final (W:=W) hW);have aN:=bP F;have z0:wc.cell? ⟨z,0,none⟩=some (.int .i64 M.ag):=aj.cell 0;have z1:wc.cell? ⟨z,1,none⟩=some (.int .i64 M.start):=aj.cell 1;have z2:wc.cell? ⟨z,2,none⟩=some (.slice fa M.final.length fc):=aj.cell 2;have z3:wc.cell? ⟨z,3,none⟩=some (.slice aa M.arcs.length ac):=aj.cell 3;have r0:wc.cell? ⟨w.heap.size+1,0,none⟩=some (.int .i64 0):=f.cell 0;have r1:wc.cell? ⟨w.heap.size+1,1,none⟩=some (.int .i64 0):=f.cell 1;have r2:wc.cell? ⟨w.heap.size+1,2,none⟩=some (.slice none 0 0):=f.cell 2;have r3:wc.cell? ⟨w.heap.size+1,3,none⟩=some (.slice none 0 0):=f.cell 3;have f0:=f.frozen 0;have f1:=f.frozen 1;have f2:=f.frozen 2;have f3:=f.frozen 3;have aC:=bP (V.out.trans (O.mono V.out.size));clear f hm E F aj O;go_wp2_with fail;obtain⟨hk,hm⟩:=Z.out _ rfl;have m0:=hk.cell 0;have m1:=hk.cell 1;have m2:=hk.cell 2;have m3:=hk.cell 3;simp only[getElem?_toArray,getElem?_cons_zero,getElem?_cons_succ]at m0 m1 m2 m3;refine bodyPost_ret (v:= .agg #[.int .i64 M.ag,.int .i64 M.start,.slice fa M.final.length fc,.slice aa M.arcs.length ac]) (by simp[results,results103,go_sem,m0,m1,m2,m3]) rfl ?_;exact⟨_,M,rfl,hm.more (by simp),aN.out,dh aC.out (b:=w.heap.size+1) (by omega) _ _ _ _⟩
end
end Go.Proofs.YtmhdgddjeadjjaaGreatDoor
