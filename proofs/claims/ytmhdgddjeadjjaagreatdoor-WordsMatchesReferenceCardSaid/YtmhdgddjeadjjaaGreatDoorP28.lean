/- K9 -/
import Derived.Test.YtmhdgddjeadjjaaGreatDoorP12
import Derived.Test.YtmhdgddjeadjjaaGreatDoorP17
namespace Go.Proofs.YtmhdgddjeadjjaaGreatDoor
open _root_.List Go.Lib _root_.Nat Go.World _root_.Int Go.Proofs.Tryz
variable {x:ByteArray}{rs:List ByteArray}{ks:List Plc}{b k:Nat}{w:World}{M:cu}
section
open Go.RowKit Classical
def nQ (M:cu)(x:ByteArray)(w:World)(e:Ending)(w':World):Prop:=
 ∃(v:Value) (ts:List ByteArray) (err:Int),e= .returned (.tuple #[v,.int .i64 err])/\(∃a b,v= .slice a ts.length b/\b8 w' w'.heap.size a (strs ts))/\Below w.heap.size w w'/\et M (bl x) ts err
def tO (M:cu)(x:ByteArray)(w:World)(e:Ending)(w':World):Prop:=
 ∃(v:Value) (ts:List ByteArray) (err:Int),e= .returned (.tuple #[v,.int .i64 err])/\w'.ownsRow w.heap.size 9 1 v ts.length (strs ts)/\Below w.heap.size w w'/\et M (bl x) ts err
structure lV (M:cu)(x:ByteArray)(k:Nat)(b:Nat)(ks:List Plc)(w:World):Prop where
 set:cy w b fM (ks.map eM)
 snd:∀p∈ks,Reach M ((bl x).take k) p
 cmp:ks.length<=2000->∀p,Reach M ((bl x).take k) p->p∈ks
 size:∀p∈ks,p.tx.size<=(k+1)*2002
 st:∀p∈ks,cD M.ag p.st
theorem lV.nodup (h:lV M x k b ks w):ks.Nodup:=
 (pairwise_map.1 (cy.nodup h.set)).imp (fun {a b} (c:eM a≠eM b) (e:a=b)=>c (by rw[e]))
theorem sT (d:cN M)(a:x.size<=400)(b:¬eJ M)(hk:k<=x.size)(c:¬gq (Reach M ((bl x).take k))):et M (bl x) [] 2:=
 .inr ⟨⟨d,by rw[b9];exact a⟩,.inr ⟨b,.inl ⟨⟨k,by rw[b9];exact hk,c⟩,rfl,rfl⟩⟩⟩
theorem Cf (f:cN M)(c:x.size<=400)(d:¬eJ M)(hk:k<x.size)(g:x[k]=0)(e:∀j,j<=k->gq (Reach M ((bl x).take j))):et M (bl x) [] 0:=by
 have a:=dU x k hk;rw[g]at a;have b:0∈bl x:=mem_of_getElem? a;refine .inr ⟨⟨f,by rw[b9];exact c⟩,.inr ⟨d,.inr ⟨fun i l=>?_,rfl,⟨by simp,by simp⟩,fun t=>?_⟩⟩⟩
 .rcases Nat.lt_or_ge k i with h |h
  .have h1:0∈(bl x).take i:=mem_of_getElem? (i:=k) (by rw[getElem?_take,if_pos h];exact a);exact⟨[],by simp,fun p hp=>absurd hp (sN M _ h1 p)⟩
  .exact e i h
 .simp only[not_mem_nil,false_iff];rintro⟨h1,_⟩;exact h1 b
theorem vQ {B:Nat}{a:World}(h:Below B a w)(n:Nat):Below B a (w.drewN n):=h.trans ⟨rfl,rfl,rfl,bW,fun _ _=>rfl⟩
theorem Bl (c:cN M):M.final.length<=4000:=by
 have h1:M.final.Nodup:=c.inc.imp (fun h=>Int.ne_of_lt h);have d:=gz (l:=M.final) (m:=(range 4000).map fun n:Nat=>(n:Int)) h1 (fun z e=>by
  obtain⟨a,b⟩:=c.final z e;have:=c.most;exact mem_map.2 ⟨z.toNat,mem_range.2 (by omega),by omega⟩)
 simpa using d
theorem Ev (l:List Int)(fa:Option Addr)(fc B:Nat)(z:Int)(k:l.length<=4000000000)(f:l.Pairwise (·<·))(w:World)(h:b8 w B fa (nums l)):
  Calls prog 98 #[.slice fa l.length fc,.int .i64 z] w fun e w'=>∃i:Nat,e= .returned (.tuple #[.int .i64 i,.bool (decide (z∈l))])/\Below w.heap.size w w':=by
 rcases eq_zero_or_pos l.length with a |a
 .have e:l=[]:=eq_nil_of_length_eq_zero a;subst e;refine(slices_BinarySearch_int_empty fa fc z w).mono ?_;rintro e w' ⟨rfl,hw⟩;refine⟨0,by simp,?_⟩;first |(subst hw;exact bX) |(obtain⟨q,rfl⟩:=hw;exact vQ bX _)
 .obtain⟨b,off,rfl,g,d⟩:=h.nums a;refine(slices_BinarySearch_int b off l.length fc l z w bW (by omega) (fun j c=>by rw[d j c];simp[getD_eq_getElem?_getD,c]) (by rw[take_length];exact f.imp (fun h=>Int.le_of_lt h))).mono ?_;rintro e w' ⟨rfl,q,rfl⟩;have e:l.contains z=decide (z∈l):=by simp
  rw[take_length,e];exact⟨_,rfl,vQ bX _⟩
noncomputable def leftN (w:World)(b r:Nat):Nat:=match w.heap[b]?,w.heap[r]? with
 |some (.map es _),some (.mapIter _ _ seen _)=>(leftOf es seen).size
 |_,_=>0
theorem cx.leftN {r:Nat}{Ok:Value->Prop}{l left:List (Value×Value)}(h:cx w b r Ok l left):leftN w b r=left.length:=by
 obtain⟨es,clock,since,seen,c0,h1,_,_,_,a,_,_,_,rfl⟩:=h;simp[Go.Proofs.YtmhdgddjeadjjaaGreatDoor.leftN,h1,a]
structure mE (M:cu)(ks rest:List Plc)(rs:List ByteArray):Prop where
 sub:∀p∈rest,p∈ks
 snd:∀t∈rs,∃p∈ks,p.st∈M.final/\p.tx=t
 cmp:∀p∈ks,p∈rest\/(p.st∈M.final->p.tx∈rs)
 len:rs.length+rest.length<=ks.length
noncomputable def o9 (rs:List ByteArray)(s:ByteArray):List ByteArray:=if s∈rs then rs else rs++[s]
theorem rI {s:ByteArray}:x∈o9 rs s↔x∈rs\/x=s:=by
 unfold o9;split
 .constructor
  .exact .inl
  .rintro(h |rfl);exact h;assumption
 .simp
theorem mE.yes {A B:List Plc}{p:Plc}(h:mE M ks (A++p::B) rs)(d:p.st∈M.final):mE M ks (A++B) (o9 rs p.tx):=by
 refine⟨fun q a=>h.sub q ?_,fun t b=>?_,fun q a=>?_,?_⟩
 .simp at a⊢;rcases a with a |a<;>simp[a]
 .rcases rI.1 b with b |rfl
  .exact h.snd t b
  .exact⟨p,h.sub p (by simp),d,rfl⟩
 .rcases h.cmp q a with h1 |h1
  .simp at h1;rcases h1 with h1 |rfl |h1
   .exact .inl (by simp[h1])
   .exact .inr (fun _=>rI.2 (.inr rfl))
   .exact .inl (by simp[h1])
  .exact .inr (fun c=>rI.2 (.inl (h1 c)))
 .have h1:=h.len;have c:(o9 rs p.tx).length<=rs.length+1:=by unfold o9;split<;>simp
  simp at h1⊢;omega
theorem mE.no {A B:List Plc}{p:Plc}(h:mE M ks (A++p::B) rs)(c:p.st∉M.final):mE M ks (A++B) rs:=by
 refine⟨fun q a=>h.sub q ?_,h.snd,fun q a=>?_,?_⟩
 .simp at a⊢;rcases a with a |a<;>simp[a]
 .rcases h.cmp q a with h1 |h1
  .simp at h1;rcases h1 with h1 |rfl |h1
   .exact .inl (by simp[h1])
   .exact .inr (fun b=>absurd b c)
   .exact .inl (by simp[h1])
  .exact .inr h1
 .have h1:=h.len;simp at h1⊢;omega
theorem CE {s:ByteArray}(h:cy w b dR (jQ (rs.map Value.string) (.string s))):cy w b dR ((o9 rs s).map Value.string):=by
 have hm:Value.string s∈rs.map Value.string↔s∈rs:=by
  rw[mem_map];exact⟨fun⟨y,c,e⟩=>(show y=s by simpa using e)▸c,fun h=>⟨s,h,rfl⟩⟩
 unfold jQ at h;unfold o9;by_cases a:s∈rs
 .rw[if_pos (hm.2 a)]at h;rw[if_pos a];exact h
 .rw[if_neg (fun h=>a (hm.1 h))]at h;rw[if_neg a,map_append];exact h
theorem Ce {ts:List ByteArray}(r:cN M)(k:x.size<=400)(l:¬eJ M)(o:ks.length<=2000)(m:∀j,j<x.size->gq (Reach M ((bl x).take j)))(f:0∉bl x)
  (c:∀p∈ks,Reach M ((bl x).take x.size) p)(hm:∀p,Reach M ((bl x).take x.size) p->p∈ks)(b:mE M ks [] rs)(d:eO ts)(e:∀t,t∈ts↔t∈rs):et M (bl x) ts 0:=by
 have q:(bl x).take x.size=bl x:=take_of_length_le (by rw[b9];exact bW);refine .inr ⟨⟨r,by rw[b9];exact k⟩,.inr ⟨l,.inr ⟨fun i n=>?_,rfl,d,fun t=>?_⟩⟩⟩
 .rw[b9]at n;rcases Nat.lt_or_ge i x.size with h |h
  .exact m i h
  .obtain rfl:i=x.size:=by omega
   exact so o hm
 .rw[e t];rw[q]at c hm;constructor
  .intro h;obtain⟨p,hp,h1,rfl⟩:=b.snd t h;exact⟨f,p.st,h1,c p hp⟩
  .rintro⟨_,s,h1,g⟩;rcases b.cmp _ (hm _ g)with a |a
   .cases a
   .exact a h1
theorem AA (M:cu)(g:cN M)(v:Value)(d:Nat)(w:World)(h:dx w w.heap.size v M)(o:cy w d fM ([(⟨M.start,⟨#[]⟩⟩:Plc)].map eM))(x:ByteArray):
  Calls prog 97 #[v,.map (some d),.int .i64 0] w fun e w'=>∃(b:Nat) (ks:List Plc),e= .returned (.tuple #[.map (some b),.bool (decide (ks.length<=2000))])/\lV M x 0 b ks w'/\Below w.heap.size w w':=by
 have r:∀p∈[(⟨M.start,⟨#[]⟩⟩:Plc)],p.tx.size<=0:=fun p hp=>by rw[mem_singleton.1 hp];exact bW
 have f:∀p∈[(⟨M.start,⟨#[]⟩⟩:Plc)],cD M.ag p.st:=fun p hp=>by rw[mem_singleton.1 hp];exact g.start
 refine(xI M g v [⟨M.start,⟨#[]⟩⟩] d 0 0 w h o (by omega) (by omega) (by omega) r f (by simp)).mono ?_;rintro e w' ⟨b,ks,rfl,h1,_,i,j,k,l,m⟩;have a:∀p,mF M (·∈[(⟨M.start,⟨#[]⟩⟩:Plc)]) 0 p↔Reach M [] p:=fun p=>by
  rw[iF];unfold mF;constructor
  .exact Cl.imp (fun q c=>by unfold ez at c;rw[if_pos rfl]at c;simpa using c)
  .exact Cl.imp (fun q c=>by unfold ez;rw[if_pos rfl];simpa using c)
 exact⟨b,ks,rfl,⟨h1,fun p hp=>by rw[take_zero];exact(a p).1 (j p hp),fun n p hp=>k n p ((a p).2 (by rw[take_zero]at hp;exact hp)),fun p hp=>Nat.le_trans (l p hp) (by decide),m⟩,i⟩
theorem Cj (M:cu)(z:cN M)(v:Value)(l k:Nat)(ks0:List Plc)(x:ByteArray)(B:x.size<=400)(hk:k<x.size)(j:x[k]≠0)(c:ks0.length<=2000)(w:World)(h:dx w w.heap.size v M)(f:lV M x k l ks0 w):
  Calls prog 97 #[v,.map (some l),.int .i64 (x[k].toNat:Int)] w fun e w'=>∃(b:Nat) (ks:List Plc),e= .returned (.tuple #[.map (some b),.bool (decide (ks.length<=2000))])/\lV M x (k+1) b ks w'/\Below w.heap.size w w':=by
 have A:x[k].toNat<256:=x[k].toNat_lt;refine(xI M z v ks0 l (x[k].toNat:Int) ((k+1)*2002) w h f.set (by omega) (by omega) (by omega) f.size f.st c).mono ?_;rintro e w' ⟨b,ks,rfl,h1,_,o,r,s,t,u⟩;have n:(bl x).take (k+1)=(bl x).take k++[x[k]]:=by rw[take_add_one,dU x k hk];rfl
 have i:((x[k].toNat:Nat):Int)≠0:=fun e=>j (UInt8.toNat_inj.1 (by simpa using e));have d:∀p,mF M (·∈ks0) (x[k].toNat:Int) p↔Reach M ((bl x).take (k+1)) p:=fun p=>by
  rw[n,fN M _ _ j];unfold mF;constructor
  .exact Cl.imp (fun q a=>by
    unfold ez at a⊢;rw[if_neg i]at a⊢;obtain⟨g,h1,m⟩:=a;exact⟨g,f.snd g h1,m⟩)
  .exact Cl.imp (fun q a=>by
    unfold ez at a⊢;rw[if_neg i]at a⊢;obtain⟨g,h1,m⟩:=a;exact⟨g,f.cmp c g h1,m⟩)
 exact⟨b,ks,rfl,⟨h1,fun p hp=>(d p).1 (r p hp),fun y p hp=>s y p ((d p).2 hp),fun p hp=>Nat.le_trans (t p hp) (Nat.le_of_eq (succ_mul (k+1) 2002).symm),u⟩,o⟩
set_option maxRecDepth 100000
set_option maxHeartbeats 8000000
theorem CA (M:cu)(v:Value)(x:ByteArray)(hx:x.size<=maxLen)(w:World)(h:dx w w.heap.size v M):
  Calls prog 56 #[v,.string x] w (tO M x w):=by
 have dH:=hx;unfold maxLen at hx;have cb:=h;obtain⟨fa,fc,aa,ac,rfl,dC,dB,hf,ha⟩:=h;obtain⟨r,aO⟩:∃r:World,r=w.alloc (.cells #[.int .i64 M.ag,.int .i64 M.start,.slice fa M.final.length fc,.slice aa M.arcs.length ac] 98):=⟨_,rfl⟩;have ba:Below w.heap.size w r:=by rw[aO];exact bX.alloc bW _
 have X:Blk r w.heap.size #[.int .i64 M.ag,.int .i64 M.start,.slice fa M.final.length fc,.slice aa M.arcs.length ac] 98:=by rw[aO];exact Blk.new _ _ _
 have aj:=X.lt;have HM:=bP (fun(wr:World) (ab:Below r.heap.size r wr)=>(show wr.cell? ⟨w.heap.size,0,none⟩=some (.int .i64 M.ag)/\wr.cell? ⟨w.heap.size,1,none⟩=some (.int .i64 M.start)/\wr.cell? ⟨w.heap.size,2,none⟩=some (.slice fa M.final.length fc)/\wr.cell? ⟨w.heap.size,3,none⟩=some (.slice aa M.arcs.length ac)from
  ⟨(X.below ab aj).cell 0,(X.below ab aj).cell 1,(X.below ab aj).cell 2,(X.below ab aj).cell 3⟩))
 have HA:=bP (fun(wr:World) (ab:Below r.heap.size r wr)=>(show dx wr wr.heap.size (.agg #[.int .i64 M.ag,.int .i64 M.start,.slice fa M.final.length fc,.slice aa M.arcs.length ac]) M from
  have h1:=ba.trans (ab.mono ba.size);(cb.below h1 bW).more h1.size))
 have H:=bQ aO ba;obtain⟨m0,m1,m2,m3⟩:=HM.out r bX;clear aO ba X hf ha cb;go_enter func56,ntmps56;go_upto_region 1 with (fail);rw[<-H.out.1];have cc:=zi M _ r (HA.out r bX);have bp:∀(wr:World),Below w.heap.size w wr->¬(cN M/\x.size<=400)->tO M x w (.returned (.tuple #[.slice none 0 0,.int .i64 1])) wr:=fun wr hb hn=>
  ⟨_,[],1,rfl,ownsRow_nil _ _ _ _,hb,.inl ⟨by rw[b9];exact hn,rfl,rfl⟩⟩
 have aq:=bQ cc bp;clear cc bp;by_cases hv:cN M
 .have ar:=bP (show Calls prog 95 _ r (fun e w'=>e= .returned (.bool true)/\Below r.heap.size r w')from by have:=aq.out.1;rwa [decide_eq_true hv]at this);have L:=bP hv;clear hv;by_cases h4:x.size<=400
  .have d4:decide ((400:Int)<(x.size:Int))=false:=bY;go_upto_region 3 with (go_at_call 95;refine ar.out.mono ?_;rintro e w1 ⟨rfl,B⟩);have ai:=H.out.2.trans (B.mono H.out.2.size);clear m0 m1 m2 m3 d4;obtain⟨m0,m1,m2,m3⟩:=HM.out w1 B;have Y:=Av M L.out _ w1 (HA.out w1 B);by_cases F:eJ M
   .rw[decide_eq_true F]at Y;have aK:=bP Y;have I:=bP F;clear Y F;go_wp2_with (go_at_call 96;refine aK.out.mono ?_;rintro e f ⟨rfl,aS⟩);have O:=ai.trans (aS.mono ai.size);go_ret2;exact⟨_,[],12,rfl,ownsRow_nil _ _ _ _,O,.inr ⟨⟨L.out,by rw[b9];exact h4⟩,.inl ⟨I.out,rfl,rfl⟩⟩⟩
   .rw[decide_eq_false F]at Y;have aK:=bP Y;have I:=bP F;clear Y F;go_upto_region 5 with (go_at_call 96;refine aK.out.mono ?_;rintro e f ⟨rfl,aS⟩);have N:=B.trans (aS.mono B.size);have bt:=ai.trans (aS.mono ai.size);clear m0 m1 m2 m3 aq ar aK;obtain⟨m0,m1,m2,m3⟩:=HM.out f N;have dD:w.heap.size<f.heap.size:=da m0;obtain⟨W4,aP⟩:∃W4:World,W4=(f.alloc (.map #[] 0)).drew:=⟨_,rfl⟩;have cf:cy W4 f.heap.size fM (([]:List Plc).map eM):=by rw[aP];exact ch.drew (cy.made f fM)
    obtain⟨w5,A,cw,cn,dd⟩:=cy.put cf sy underlying155 (key:=eM ⟨M.start,⟨#[]⟩⟩) ⟨_,rfl⟩;have aG:Below f.heap.size f w5:=by
     have h1:Below f.heap.size f W4:=by rw[aP];exact(bX.alloc bW _).drew
     exact h1.grown cn h1.size (fun j o=>by cases o;exact bW)
    have af:=N.trans (aG.mono N.size);obtain⟨y0,y1,y2,y3⟩:=HM.out w5 af;have cW:=new_ne f ⟨w.heap.size,0,none⟩ m0;have cX:=new_ne f ⟨w.heap.size,1,none⟩ m1;have cZ:=new_ne f ⟨w.heap.size,2,none⟩ m2;have c0:=new_ne f ⟨w.heap.size,3,none⟩ m3;have cd:=AA M L.out _ f.heap.size w5 (HA.out w5 af) (by
     have:=cw;rw[jQ,if_neg (by simp)]at this;exact this) x
    have cM:=bP cd;have b3:(Instr.mapUpdate 155 (.map (some f.heap.size)) (.agg #[.int .i64 M.start,.string ⟨#[]⟩]) (.bool true)).run prog ((f.alloc (.map #[] 0)).drew)= .ok () w5:=by rw[<-aP];exact A
    have bC:= @run_makeMap prog;have H5:=bP aG;clear cf A cw cn dd aG cd aP;go_cut [6,7] (fun p q wx=>∃(b:Nat) (ks:List Plc),p= .map (some b)/\q= .bool (decide (ks.length<=2000))/\lV M x 0 b ks wx/\Below f.heap.size f wx);case first=>
     go_region_held3 (fun w'=>w'.cell? ⟨w.heap.size,0,none⟩=some (.int .i64 M.ag)/\w'.cell? ⟨w.heap.size,1,none⟩=some (.int .i64 M.start)/\w'.cell? ⟨w.heap.size,2,none⟩=some (.slice fa M.final.length fc)/\w'.cell? ⟨w.heap.size,3,none⟩=some (.slice aa M.arcs.length ac))
      (first |exact⟨m0,m1,m2,m3⟩ |exact⟨y0,y1,y2,y3⟩ |exact⟨z0,z1,z2,z3⟩ |go_keep)
      (first |(go_at_call 97;refine cM.out.mono ?_;rintro e w6 ⟨b6,bN,rfl,aY,Z⟩;have aF:=af.trans (Z.mono af.size);obtain⟨z0,z1,z2,z3⟩:=HM.out w6 aF))
     all_goals go_wp2_with fail
     all_goals go_meet
     all_goals exact⟨b6,bN,rfl,rfl,aY,H5.out.trans (Z.mono H5.out.size)⟩
    case rest=>
     obtain⟨b,ks,rfl,rfl,hp,cj⟩:=hcut;go_wp2_with fail;clear cW cX cZ c0 m0 m1 m2 m3 b3 bC y0 y1 y2 y3;go_loopw [6,7,8] (fun p q i wr=>∃(k b:Nat) (ks:List Plc),p= .map (some b)/\q= .bool (decide (ks.length<=2000))/\i= .int .i64 k/\k<=x.size/\lV M x k b ks wr/\(∀j,j<k->gq (Reach M ((bl x).take j))/\(bl x)[j]?≠some 0)/\Below f.heap.size f wr) (fun _ _ i _=>x.size-(intOf i).toNat);case atStart=>exact⟨0,b,ks,rfl,rfl,rfl,zero_le _,hp,fun j o=>absurd o (not_lt_zero _),cj⟩
     case round=>
      clear hp cj b ks;obtain⟨k,b,ks,rfl,rfl,rfl,cU,hp,ck,aV⟩:=hrel;have E:=N.trans (aV.mono N.size);have Q:=bt.trans (aV.mono bt.size);obtain⟨m0,m1,m2,m3⟩:=HM.out wr E;have z:=bQ hp ck;clear hp ck;by_cases R:ks.length<=2000
      .have d1:decide (ks.length<=2000)=true:=decide_eq_true R;rw[d1];have Hl:=bP R;clear R;by_cases hk:k<x.size
       .have bz:decide ((k:Int)<(x.size:Int))=true:=bZ;by_cases V:x[k]=0
        .have dz:((x[k].toNat:Int)==0)=true:=by rw[V];rfl
         have Hz:=bP V;clear V;go_wp2_with fail;go_ret2;exact⟨_,[],0,rfl,ownsRow_nil _ _ _ _,Q,Cf L.out h4 I.out hk Hz.out (fun j o=>by
          rcases Nat.lt_succ_iff_lt_or_eq.1 (lt_succ_of_le o)with o |rfl
          .exact(z.out.2 j o).1
          .exact so Hl.out (z.out.1.cmp Hl.out))⟩
        .have dz:((x[k].toNat:Int)==0)=false:=by
          rw[beq_eq_false_iff_ne];exact fun e=>V (UInt8.toNat_inj.1 (by simpa using e))
         have HQ:=bP (Cj M L.out _ b k ks x h4 hk V Hl.out wr.drew (HA.out _ E.drew) ⟨ch.drew z.out.1.set,z.out.1.snd,z.out.1.cmp,z.out.1.size,z.out.1.st⟩);have Hz:=bP V;clear V;have dG:IntKind.i64.wrap ((x[k].toNat:Nat):Int)=(x[k].toNat:Int):=IntWalk.i64_in _ (by have:=x[k].toNat_lt;omega);go_upto_region 11 with (fail);go_region_held3 (fun w'=>w'.cell? ⟨w.heap.size,0,none⟩=some (.int .i64 M.ag)/\w'.cell? ⟨w.heap.size,1,none⟩=some (.int .i64 M.start)/\w'.cell? ⟨w.heap.size,2,none⟩=some (.slice fa M.final.length fc)/\w'.cell? ⟨w.heap.size,3,none⟩=some (.slice aa M.arcs.length ac))
          (first |exact⟨m0,m1,m2,m3⟩ |exact⟨z0,z1,z2,z3⟩ |go_keep)
          (first |(go_at_call 97;refine HQ.out.mono ?_;rintro e w6 ⟨b6,bN,rfl,aY,Z⟩;have aF:=E.drew.trans (Z.mono E.size);obtain⟨z0,z1,z2,z3⟩:=HM.out w6 aF;have cQ:=bP aY;clear aY))
         have cE:Below f.heap.size f w6:=aV.drew.trans (Z.mono aV.size);clear m0 m1 m2 m3 z0 z1 z2 z3 Z;go_wp2_with fail;refine⟨⟨k+1,b6,bN,rfl,rfl,by go_num,hk,cQ.out,fun j o=>?_,cE⟩,by simp[intOf];omega⟩;rcases Nat.lt_succ_iff_lt_or_eq.1 o with o |rfl
         .exact z.out.2 j o
         .exact⟨so Hl.out (z.out.1.cmp Hl.out),fun e=>Hz.out (by rw[dU x _ hk]at e;exact Option.some.inj e)⟩
       .obtain rfl:k=x.size:=by omega
        have bz:decide ((x.size:Int)<(x.size:Int))=false:=bY;have bC:= @run_makeMap prog;go_upto_region 15 with (fail);clear bC;have cA:=bP (show∀j,j<x.size->gq (Reach M ((bl x).take j))from fun j o=>(z.out.2 j o).1);by_cases bM:0∈bl x
        .exact absurd bM (fun h=>by
          obtain⟨j,o⟩:=mem_iff_getElem?.1 h;have cT:j<x.size:=by have:=(List.getElem?_eq_some_iff.1 o).1;rwa [b9]at this
          exact(z.out.2 j cT).2 o)
        .have cS:=bP bM;clear bM;obtain⟨m,ay⟩:∃m,wr.heap.size=m:=⟨_,rfl⟩;obtain⟨W6,aw⟩:∃W6:World,W6=wr.alloc (.map #[] 0):=⟨_,rfl⟩;rw[<-aw,ay];have bu:Below m wr W6:=by rw[aw,<-ay];exact bX.alloc bW _
         have bG:cy W6 m dR (([]:List ByteArray).map Value.string):=by rw[aw,<-ay];exact cy.made wr dR
         have dn:=ch.lt z.out.1.set;have bA:cy W6 b fM (ks.map eM):=ch.below z.out.1.set bu (by omega);obtain⟨ro,cH,hR⟩:=ch.range (P:=prog) bA underlying155;have ax:(ks.map eM).map (fun v=>(v,Value.bool true))=ks.map gR:=by rw[map_map];rfl
         rw[ax]at hR;have an:W6.heap.size=m+1:=by rw[aw,<-ay];simp
         have HR:=bS hR bG bu;have ad:=bP an;clear aw hR bG bu bA ax an;go_wp2_with fail;clear cH;obtain⟨T,a7⟩:∃T,W6.heap.size=T:=⟨_,rfl⟩;obtain⟨W7,aQ⟩:∃W7:World,W7=W6.alloc ro:=⟨_,rfl⟩;rw[<-aQ,a7];have bw:Below T W6 W7:=by rw[aQ,<-a7];exact bX.alloc bW _
         have bm:=HR.out.1;rw[<-aQ,a7]at bm;have bH:cy W7 m dR (([]:List ByteArray).map Value.string):=ch.below HR.out.2.1 bw (by have:=ad.out;omega);have cg:Below m wr W7:=HR.out.2.2.trans (bw.mono (by have:=ad.out;omega));have an:=ad.out;have dr:T<=m+1:=by omega
         have ds:m+1<=T:=by omega
         have dt:wr.heap.size<=m:=by omega
         have du:m<=wr.heap.size:=by omega
         clear aQ bw a7 an HR ay ad;obtain⟨wo,rfl⟩:∃wo:World,wo=wr:=⟨_,rfl⟩;go_loopw [] (fun wx=>∃(rest:List Plc) (rs:List ByteArray),cx wx b T fM (ks.map gR) (rest.map gR)/\cy wx m dR (rs.map Value.string)/\mE M ks rest rs/\Below m wo wx) (fun wx=>leftN wx b T);case atStart=>exact⟨ks,[],bm,bH,⟨fun _ h=>h,by simp,fun p hp=> .inl hp,by simp⟩,cg⟩
         case round=>
          clear bm bH cg;obtain⟨rest,rs,cr,az,bE,aW⟩:=hrel;have bg:=bP cr;have aM:=bP az;have J:=bP bE;have dv:=aW.size;clear cr az bE;rcases cx.next (P:=prog) bg.out 0 with ⟨R,A⟩ |⟨A',pr,B',w',R,A,bF,cm,cv,bx⟩
          .have cp:∀ty,(Instr.next (.pointer (some ⟨T,0,none⟩)) false ty).run prog wr= .ok (.tuple #[.bool false]) wr:=fun _=>A;have V:rest=[]:=map_eq_nil_iff.1 R;have Hz:=bP V;clear R V A;go_wp2_with fail;have dE:rs.length<=2000:=by have h1:=J.out.len;have h2:=Hl.out;omega
           have ct:∀s∈rs,s.size<=maxLen:=fun s hs=>by
            obtain⟨p,hp,_,rfl⟩:=J.out.snd s hs;have h1:=z.out.1.size p hp;have h2:(x.size+1)*2002<=401*2002:=mul_le_mul_right _ (by omega);unfold maxLen;omega
           obtain⟨D0,bD,a1,bk⟩:=BK underlying9 aM.out ct (by unfold maxLen;omega);have aL:=bP a1;have hq:=(callsIn_wide (n:=5)).1 (slices_Sorted_keys_99_100 m rs.length D0 _ wr bD (by rw[bk];unfold maxLen;omega) (by rw[bk];omega));have HQ:=bP hq;clear hq bD a1 bk ct;refine((callsIn_wide (n:=5)).1 (maps_Keys_100 (some m) wr)).mono ?_;rintro e w3 ⟨rfl,rfl⟩;have br:Below wr.heap.size wr (wr.alloc (.cells #[.map (some m)] 160)):=bX.alloc bW _;have cO:=bP br;clear br;go_wp2_with fail;refine HQ.out.mono ?_;rintro e w4 ⟨v4,ss,rfl,aA,ak,_,aT⟩;obtain⟨a4,c4,rfl,cV, -⟩:=b8.ah ak;have H4:=bS aA ak aT;clear aA aT ak cV;go_wp2_with fail;go_ret2;obtain⟨aA,b2,aT⟩:=H4.out;obtain⟨ts,bL⟩:∃ts:List ByteArray,ts=(ss.mergeSort (fun x y=>decide (x<=y))).map (fun l=>(⟨l.toArray⟩:ByteArray)):=⟨_,rfl⟩;have bK:ts.map bl=ss.mergeSort (fun x y=>decide (x<=y)):=by
            rw[bL,map_map];conv=>rhs;rw[<-map_id (ss.mergeSort (fun x y=>decide (x<=y)))]
            exact map_congr_left (fun l _=>by simp[bl])
           have db:strs ts=(ss.mergeSort (fun x y=>decide (x<=y))).map encStr:=by
            rw[bL,strs,map_map];exact map_congr_left (fun l _=>rfl)
           have cz:ts.length=ss.length:=by rw[bL,length_map,length_mergeSort]
           have c5:(rs.map bl).Nodup:=by
            have h1:=cy.nodup aM.out;exact pairwise_map.2 ((pairwise_map.1 h1).imp (fun {a b} (c6:Value.string a≠Value.string b) (e:bl a=bl b)=>c6 (congrArg Value.string (cY e))))
           have dF:=Q.size;have O:Below w.heap.size w w4:=((Q.trans (aW.mono (by omega))).trans (cO.out.mono (by omega))).trans (aT.mono (by simp;omega));refine⟨.slice a4 ts.length c4,ts,0,by rw[cz];rfl,by rw[db,cz];exact cP b2 (by have:=aW.size;simp;omega),O,Ce L.out h4 I.out Hl.out cA.out cS.out z.out.1.snd (z.out.1.cmp Hl.out) (by have:=J.out;rw[Hz.out]at this;exact this) ⟨?_,?_⟩ (fun t=>?_)⟩
           .rw[bK];have:=pairwise_mergeSort (le:=fun x y:List UInt8=>decide (x<=y)) (fun a b c h1 h2=>by simp only[decide_eq_true_eq]at *;exact List.le_trans h1 h2) (fun a b=>by simp only[Bool.or_eq_true,decide_eq_true_eq];exact List.le_total a b) ss;exact this.imp (fun h=>by simpa using h)
           .rw[bK];exact((mergeSort_perm _ _).trans (aA.trans aL.out)).nodup_iff.2 c5
           .have h1:bl t∈ts.map bl↔bl t∈rs.map bl:=by
             rw[bK];exact((mergeSort_perm _ _).trans (aA.trans aL.out)).mem_iff
            rw[mem_map,mem_map]at h1;constructor
            .intro h;obtain⟨s,hs,e⟩:=h1.1 ⟨t,h,rfl⟩;rw[<-cY e];exact hs
            .intro h;obtain⟨s,hs,e⟩:=h1.2 ⟨t,h,rfl⟩;rw[<-cY e];exact hs
          .obtain⟨ra,p,rb,az,rfl,rfl,rfl⟩:=qe R;have cp:∀ty,(Instr.next (.pointer (some ⟨T,0,none⟩)) false ty).run prog wr= .ok (.tuple #[.bool true,.agg #[.int .i64 p.st,.string p.tx],.bool true]) w':=fun _=>A;have b1:(Instr.entry (.pointer (some ⟨T,0,none⟩))).run prog w'= .ok (.tuple #[.agg #[.int .i64 p.st,.string p.tx],.bool true]) w':=bx;have aN:=bP az;have aE:=bP bF;have ca:=bP cm;have cR:=bP cv;clear R bx az bF cm A cv;go_upto_region 18 with (fail);obtain⟨U,aR⟩:∃U:World,U=w'.alloc (.cells #[.int .i64 p.st,.string p.tx] 159):=⟨_,rfl⟩;rw[<-aR];obtain⟨pb,aZ⟩:∃pb,w'.heap.size=pb:=⟨_,rfl⟩;rw[aZ];have D:Blk U pb #[.int .i64 p.st,.string p.tx] 159:=by rw[aR,<-aZ];exact Blk.new _ _ _
           have aU:Below pb w' U:=by rw[aR,<-aZ];exact bX.alloc bW _
           have cI:=cR.out;have g:Below m wo U:=(aW.grown ca.out (by omega) (fun j o=>by cases o;omega)).trans (aU.mono (by omega));have aH:Below r.heap.size r U:=E.trans (g.mono (by have:=E.size;omega));have d:=cx.below aE.out aU (by have:=ch.lt (cx.isMap aE.out);omega) (by have:=cx.lt aE.out;omega);have a8:m≠T:=by omega
           have u:cy U m dR (rs.map Value.string):=ch.below (ch.grown aM.out ca.out (fun e=>a8 (by injection e))) aU (by have:=ch.lt aM.out;omega);obtain⟨m0,m1,m2,m3⟩:=HM.out U aH;have x0:=D.cell 0;have x1:=D.cell 1;simp only[getElem?_toArray,getElem?_cons_zero,getElem?_cons_succ]at x0 x1;obtain⟨_,_,_,_,aX,cF,_,cq,_⟩:=HA.out U aH;injection aX with aX;simp only[Array.mk.injEq,cons.injEq,Value.slice.injEq,true_and,and_true]at aX;obtain⟨⟨rfl,rfl⟩,rfl,rfl⟩:=aX;have hQ:=Ev M.final fa fc _ p.st (by have:=Bl L.out;omega) L.out.inc U cq;have H8:=bT d u D g;clear aR aZ aU cI d u D g aH cq cF m0 m1 m3 cp b1;by_cases G:p.st∈M.final
           .rw[decide_eq_true G]at hQ;have HQ:=bP hQ;have aD:=bP G;clear hQ G;go_upto_region 20 with (go_at_call 98;refine HQ.out.mono ?_;rintro e w9 ⟨i9,rfl,C⟩);obtain⟨d,u,D,g⟩:=H8.out;have al:=ch.below u C (ch.lt u);have S:=cx.below d C (ch.lt (cx.isMap d)) (cx.lt d);obtain⟨de,c8,bJ,aI,dw⟩:=cy.put al iP underlying160 (key:= .string p.tx) (oh _);have df:=(D.below C D.lt).cell 1;simp only[getElem?_toArray,getElem?_cons_zero,getElem?_cons_succ]at df;have cG:m≠b:=by omega
            have a6:=cx.grown S aI (fun e=>cG (by injection e with e;exact e.symm)) (fun e=>a8 (by injection e with e;exact e.symm));have cJ:=g.size;have bq:Below m wo de:=(g.trans (C.mono (by omega))).grown aI (by have:=C.size;omega) (fun j o=>by cases o;exact bW);have aJ:=bS a6 (CE bJ) bq;clear d u D g al S bJ aI a6 bq x0 x1 m2;go_wp2_with fail;refine⟨⟨ra++rb,o9 rs p.tx,by rw[map_append];exact aJ.out.1,aJ.out.2.1,(by have:=J.out;rw[aN.out]at this;exact this.yes aD.out),aJ.out.2.2⟩,?_⟩;rw[cx.leftN aJ.out.1,cx.leftN bg.out,aN.out];simp
           .rw[decide_eq_false G]at hQ;have HQ:=bP hQ;have aD:=bP G;clear hQ G;go_wp2_with (go_at_call 98;refine HQ.out.mono ?_;rintro e w9 ⟨i9,rfl,C⟩);obtain⟨d,u,D,g⟩:=H8.out;have al:=ch.below u C (ch.lt u);have S:=cx.below d C (ch.lt (cx.isMap d)) (cx.lt d);have cJ:=g.size;refine⟨⟨ra++rb,rs,by rw[map_append];exact S,al,(by have:=J.out;rw[aN.out]at this;exact this.no aD.out),g.trans (C.mono (by omega))⟩,?_⟩;rw[cx.leftN S,cx.leftN bg.out,aN.out];simp
      .have d1:decide (ks.length<=2000)=false:=decide_eq_false R;rw[d1];have bB:=bP (show et M (bl x) [] 2 from sT L.out h4 I.out cU (yW (by omega) z.out.1.nodup z.out.1.snd));clear R;by_cases hk:k<x.size
       .have bz:decide ((k:Int)<(x.size:Int))=true:=bZ;go_wp2_with fail;go_ret2;exact⟨_,[],2,rfl,ownsRow_nil _ _ _ _,Q,bB.out⟩
       .have bz:decide ((k:Int)<(x.size:Int))=false:=bY;go_wp2_with fail;go_ret2;exact⟨_,[],2,rfl,ownsRow_nil _ _ _ _,Q,bB.out⟩
  .have d4:decide ((400:Int)<(x.size:Int))=true:=bZ;go_wp2_with (go_at_call 95;refine ar.out.mono ?_;rintro e w1 ⟨rfl,B⟩);have O:=H.out.2.trans (B.mono H.out.2.size);go_ret2;exact aq.out.2 _ O (fun h=>h4 h.2)
 .have ar:=bP (show Calls prog 95 _ r (fun e w'=>e= .returned (.bool false)/\Below r.heap.size r w')from by have:=aq.out.1;rwa [decide_eq_false hv]at this);have L:=bP hv;clear hv;go_wp2_with (go_at_call 95;refine ar.out.mono ?_;rintro e w1 ⟨rfl,B⟩);have O:=H.out.2.trans (B.mono H.out.2.size);go_ret2;exact aq.out.2 _ O (fun h=>L.out h.1)
theorem Cz (M:cu)(v:Value)(x:ByteArray)(i:x.size<=maxLen)(w:World)(h:dx w w.heap.size v M):
  Calls prog 56 #[v,.string x] w (nQ M x w):=by
 refine(CA M v x i w h).mono ?_;rintro e w' ⟨v',ts,err,he,f,d,g⟩;obtain⟨a,c,rfl,_,b⟩:=b8.ah f;exact⟨_,ts,err,he,⟨a,c,rfl,b⟩,d,g⟩
end
end Go.Proofs.YtmhdgddjeadjjaaGreatDoor
