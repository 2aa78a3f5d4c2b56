/- GM -/
import Derived.Test.YtmhdgddjeadjjaaGreatDoorP07
namespace Go.Proofs.YtmhdgddjeadjjaaGreatDoor
open _root_.List Go.Lib _root_.Nat Go.World _root_.Int Go.Proofs.Tryz
variable {s:ByteArray}{i:Nat}
section
open Go.RowKit Classical
theorem nD:∀(l:List UInt8) (a:Nat),(∀c∈l,48<=c.toNat/\c.toNat<=57)->∃n,decFrom a l=some n
 |[],a,_=>⟨a,rfl⟩
 |b::r,a,h=>by
  have d:=h b (by simp);unfold decFrom digitVal;rw[if_pos d];exact nD r _ (fun c e=>h c (by simp[e]))
theorem xV (l:List UInt8)(d:l≠[])(h:∀c∈l,48<=c.toNat/\c.toNat<=57):∃n,atoi l=some n:=by
 cases l with
 |nil=>exact absurd rfl d
 |cons b r=>
  have a:=h b (by simp);obtain⟨n,f⟩:=nD (b::r) 0 h;have h1:(b==45)=false:=by
   rw[beq_eq_false_iff_ne];rintro rfl;revert a;decide
  have e:(b==43)=false:=by
   rw[beq_eq_false_iff_ne];rintro rfl;revert a;decide
  refine⟨(n:Int),?_⟩;simp only[atoi,decNat,h1,e,f];rfl
theorem uW {c:Nat}(h:dJ c=4):48<=c/\c<=57:=by
 by_cases a:48<=c/\c<=57
 .exact a
 .exfalso;unfold dJ at h;rw[if_neg a]at h;repeat' split at h;all_goals omega
theorem AE (l:List UInt8)(cls:List Int)(i j:Nat)(c:UInt8)(m:i<=j)(g:j<dn l cls i)(e:l[j]?=some c):cls.contains (dJ c.toNat)=true:=by
 obtain⟨d,rfl⟩:∃d,j=i+d:=⟨j-i,by omega⟩;have f:d<((l.drop i).takeWhile fun c=>cls.contains (dJ c.toNat)).length:=by unfold dn at g;omega
 have h1:(l.drop i)[d]?=some c:=by rw[getElem?_drop];exact e
 have a:((l.drop i).takeWhile fun c=>cls.contains (dJ c.toNat))[d]?=some c:=by
  have hp:((l.drop i).takeWhile fun c=>cls.contains (dJ c.toNat))<+:l.drop i:=takeWhile_prefix _;obtain⟨t,k⟩:=hp;rw[<-k,getElem?_append_left f]at h1;exact h1
 have hm:=mem_of_getElem? a;have b:(takeWhile (fun c:UInt8=>cls.contains (dJ c.toNat)) (l.drop i)).all (fun c=>cls.contains (dJ c.toNat))=true:=all_takeWhile;exact all_eq_true.1 b c hm
def jB (s:ByteArray)(i:Nat)(kind:Int)(text:ByteArray)(a:Nat)(err:Int):Prop:=
 (err=0->i<a/\a<=s.size/\text.size<=s.size)/\
 (dt (bl s) i=3->dn (bl s) [3,4,5] i-i<=24->err=0/\kind=1/\text=s.extract i (dn (bl s) [3,4,5] i)/\a=dn (bl s) [3,4,5] i)/\
 (dt (bl s) i=3->24<dn (bl s) [3,4,5] i-i->err≠0)/\
 (dt (bl s) i≠3->kind≠1)
def cL (kind at_ n:Int)(text:ByteArray):List Value:=[.int .i64 kind,.int .i64 at_,.int .i64 n,.string text]
theorem Eh (a:World)(cls:List Int)(t:TypeId):b8 (a.alloc (.cells (nums cls).toArray t)) (a.heap.size+1) (some ⟨a.heap.size,0,none⟩) (nums cls):=fun _=>
 ⟨_,0,rfl,by omega,fun i x b=>by rw[Nat.zero_add];exact Box.new a (nums cls) t i x b⟩
theorem uO (b:Nat)(s:ByteArray)(cls:List Int)(c:cls.length<=maxLen)(i:Nat)(f:i<=s.size)(j:s.size<=maxLen)(a:World)(h:gM a b s)(d:b<a.heap.size):
  Calls prog 186 #[.pointer (some ⟨b,0,none⟩),.int .i64 i,.slice (some ⟨a.heap.size,0,none⟩) cls.length cls.length] (a.alloc (.cells (nums cls).toArray 3)) fun e w'=>e= .returned (.int .i64 (dn (bl s) cls i))/\Below a.heap.size a w':=
 (uN b s i cls _ _ c f j _ (h.below (bX.alloc bW _) d) _ (Eh a cls 3)).mono fun e w' ⟨he,q,g⟩=>⟨he,by rw[g];exact below_drewN' (bX.alloc bW _) q⟩
theorem fH {B k:Nat}{w a:World}(h:Below B w a)(hk:B<=k)(x0 x1 b x3:Value):Below B w ((((a.setCell ⟨k,0,none⟩ x0).setCell ⟨k,1,none⟩ x1).setCell ⟨k,2,none⟩ b).setCell ⟨k,3,none⟩ x3):=
 (((h.setCell (p:=⟨k,0,none⟩) hk x0).setCell (p:=⟨k,1,none⟩) hk x1).setCell (p:=⟨k,2,none⟩) hk b).setCell (p:=⟨k,3,none⟩) hk x3
set_option maxRecDepth 100000
set_option maxHeartbeats 2000000
theorem Dg (b:Nat)(s:ByteArray)(i:Nat)(hi:i<s.size)(hs:s.size<4294967281)(w:World)(h:gM w b s)(hb:b<w.heap.size):
  Calls prog 128 #[.pointer (some ⟨b,0,none⟩),.int .i64 i] w fun e w'=>
   (∃kind at_ n text z err,e= .returned (.tuple #[.agg (cL kind at_ n text).toArray,.int .i64 (z:Nat),.int .i64 err])/\jB s i kind text z err)/\Below w.heap.size w w':=by
 have hm:s.size<=maxLen:=by unfold maxLen;omega
 go_enter func128,ntmps128;obtain⟨C,hC⟩:∃C,dt (bl s) i=C:=⟨_,rfl⟩;have R:Blk (w.alloc (Obj.cells #[.int .i64 0,.int .i64 0,.int .i64 0,.string ⟨#[]⟩] 129)) w.heap.size #[.int .i64 0,.int .i64 0,.int .i64 0,.string ⟨#[]⟩] 129:=Blk.new w _ _;have H:Below w.heap.size w (w.alloc (Obj.cells #[.int .i64 0,.int .i64 0,.int .i64 0,.string ⟨#[]⟩] 129)):=bX.alloc bW _;have aq:(w.alloc (Obj.cells #[.int .i64 0,.int .i64 0,.int .i64 0,.string ⟨#[]⟩] 129)).heap.size=w.heap.size+1:=by simp
 go_wp2_with fail;generalize ah:w.alloc (Obj.cells #[.int .i64 0,.int .i64 0,.int .i64 0,.string ⟨#[]⟩] 129)=u at R H aq;clear ah;have X:=h.below H hb;have ha:=nw b s i hm u X;rw[hC]at ha;refine ha.mono ?_;rintro e m ⟨rfl,q1,T⟩;have g:Below u.heap.size u m:=by rw[T];exact below_drewN' bX _
 clear T ha;have r:=bP (fun(wr:World) (I:Below u.heap.size u wr)=>(show(∀j,wr.cell? ⟨w.heap.size,j,none⟩=(#[Value.int .i64 0,.int .i64 0,.int .i64 0,.string ⟨#[]⟩]:Array Value)[j]?)/\(∀j,wr.frozen? ⟨w.heap.size,j,none⟩=false)/\gM wr b s/\Below w.heap.size w wr from
  ⟨fun j=>(R.below I (by omega)).cell j,fun j=>(R.below I (by omega)).frozen j,X.below I (by omega),H.trans (I.mono H.size)⟩))
 clear R;by_cases c3:C=3
 .subst c3;go_wp2_with fail;obtain⟨m1,m2,m3,m4⟩:=r.out m g;refine(uO b s [3,4,5] (by decide) i (by omega) hm m m3 (by have:=g.size;omega)).mono ?_;rintro e l ⟨rfl,y⟩;have o:=g.trans (y.mono g.size);have p:=jL (bl s) [3,4,5] i;have hle:=lj (bl s) [3,4,5] i (by rw[b9];omega);rw[b9]at hle;have q:i<dn (bl s) [3,4,5] i:=by
   have P:=dU s i hi;rw[ni P (by rw[dt,P]at hC;simp only at hC;rw[hC];rfl)];exact Nat.lt_of_lt_of_le (lt_succ_self i) (jL _ _ _)
  generalize N:dn (bl s) [3,4,5] i=E at p hle q;have Q:=bP N;clear N m1 m2 m3 m4;obtain⟨m1,m2,m3,m4⟩:=r.out l o;have F:=m3.text;obtain⟨n0,a,d,f⟩:l.cell? ⟨w.heap.size,0,none⟩=some (.int .i64 0)/\l.cell? ⟨w.heap.size,1,none⟩=some (.int .i64 0)/\l.cell? ⟨w.heap.size,2,none⟩=some (.int .i64 0)/\l.cell? ⟨w.heap.size,3,none⟩=some (.string ⟨#[]⟩):=⟨m1 0,m1 1,m1 2,m1 3⟩;have ao:IntKind.i64.wrap ((E:Int) -(i:Int))=(E:Int) -(i:Int):=IntWalk.i64_in _ (by omega);by_cases aC:E-i<=24
  .have d24:decide ((24:Int)<(E:Int) -(i:Int))=false:=by simp;omega
   clear m1;go_wp2_with fail;refine bodyPost_ret (v:= .tuple #[.agg (cL 1 i 0 (s.extract i E)).toArray,.int .i64 (E:Nat),.int .i64 0]) (by simp[results,cL,results128,go_sem,n0,a,d,f]) rfl ?_;refine⟨⟨1,i,0,s.extract i E,E,0,rfl,⟨fun _=>⟨q,hle,by simp;omega⟩,fun _ _=>by rw[Q.out];exact⟨rfl,rfl,rfl,rfl⟩,fun _ h=>?_,fun h=>absurd hC h⟩⟩,fH m4 bW _ _ _ _⟩;rw[Q.out]at h;omega
  .have d24:decide ((24:Int)<(E:Int) -(i:Int))=true:=by simp;omega
   clear m1;go_wp2_with fail;refine bodyPost_ret (v:= .tuple #[.agg (cL 0 0 0 ⟨#[]⟩).toArray,.int .i64 (0:Nat),.int .i64 2]) (by simp[results,cL,results128,go_sem,n0,a,d,f]) rfl ?_;refine⟨⟨0,0,0,⟨#[]⟩,0,2,rfl,⟨fun h=>absurd h (by decide),fun _ h=>?_,fun _ _=>by decide,fun h=>absurd hC h⟩⟩,fH m4 bW _ _ _ _⟩;rw[Q.out]at h;omega
 .have d3:(C==3)=false:=by simpa using c3
  by_cases c4:C=4
  .subst c4;go_wp2_with fail;obtain⟨m1,m2,m3,m4⟩:=r.out m g;refine(uO b s [4] (by decide) i (by omega) hm m m3 (by have:=g.size;omega)).mono ?_;rintro e l ⟨rfl,y⟩;have o:=g.trans (y.mono g.size);have p:=jL (bl s) [4] i;have hle:=lj (bl s) [4] i (by rw[b9];omega);rw[b9]at hle;have q:i<dn (bl s) [4] i:=by
    have P:=dU s i hi;rw[ni P (by rw[dt,P]at hC;simp only at hC;rw[hC];rfl)];exact Nat.lt_of_lt_of_le (lt_succ_self i) (jL _ _ _)
   have B:=AE (bl s) [4] i;generalize N:dn (bl s) [4] i=E at p hle q B;have Q:=bP N;have Y:=bP B;clear N B m1 m2 m3 m4;obtain⟨m1,m2,m3,m4⟩:=r.out l o;go_wp2_with fail;refine(nw b s E hm l m3).mono ?_;rintro e L ⟨rfl,q3,U⟩;have G:Below u.heap.size u L:=by rw[U];exact below_drewN' o _
   clear U m1 m2 m3 m4;obtain⟨m1,m2,m3,m4⟩:=r.out L G;obtain⟨A,hA⟩:∃A,dt (bl s) E=A:=⟨_,rfl⟩;rw[hA];clear hA;have F:=m3.text;obtain⟨n0,a,d,f⟩:L.cell? ⟨w.heap.size,0,none⟩=some (.int .i64 0)/\L.cell? ⟨w.heap.size,1,none⟩=some (.int .i64 0)/\L.cell? ⟨w.heap.size,2,none⟩=some (.int .i64 0)/\L.cell? ⟨w.heap.size,3,none⟩=some (.string ⟨#[]⟩):=⟨m1 0,m1 1,m1 2,m1 3⟩;have ao:IntKind.i64.wrap ((E:Int) -(i:Int))=(E:Int) -(i:Int):=IntWalk.i64_in _ (by omega);have hN:jB s i 0 ⟨#[]⟩ 0 4:=⟨fun h=>absurd h (by decide),fun h=>absurd (hC.symm.trans h) (by decide),fun h=>absurd (hC.symm.trans h) (by decide),fun _=>by decide⟩;by_cases aB:E-i<=13
   .have d13:decide ((13:Int)<(E:Int) -(i:Int))=false:=by simp;omega
    by_cases a3:A=3
    .subst a3;clear m1;go_wp2_with fail;refine bodyPost_ret (v:= .tuple #[.agg (cL 0 0 0 ⟨#[]⟩).toArray,.int .i64 (0:Nat),.int .i64 4]) (by simp[results,cL,results128,go_sem,n0,a,d,f]) rfl ?_;exact⟨⟨0,0,0,⟨#[]⟩,0,4,rfl,hN⟩,fH m4 bW _ _ _ _⟩
    .have e3:(A==3)=false:=by simpa using a3
     by_cases a5:A=5
     .subst a5;clear m1;go_wp2_with fail;refine bodyPost_ret (v:= .tuple #[.agg (cL 0 0 0 ⟨#[]⟩).toArray,.int .i64 (0:Nat),.int .i64 4]) (by simp[results,cL,results128,go_sem,n0,a,d,f]) rfl ?_;exact⟨⟨0,0,0,⟨#[]⟩,0,4,rfl,hN⟩,fH m4 bW _ _ _ _⟩
     .have e5:(A==5)=false:=by simpa using a5
      obtain⟨n,hn⟩:∃n,atoi (s.extract i E).data.toList=some n:=by
       refine xV _ (fun e=>?_) (fun c hc=>?_)
       .have:=congrArg length e;rw[<-Lib.size_eq]at this;simp at this;omega
       .obtain⟨j,D⟩:=getElem?_of_mem hc;rw[extract_data,getElem?_take]at D;split at D
        .rw[getElem?_drop]at D;have:=Y.out (i+j) c (by omega) (by omega) D;exact uW (by simpa using this)
        .simp at D
      have Hn:=bP hn;clear hn m1;go_wp2_with fail;refine(strconv_Atoi (s.extract i E) n (by simp;omega) Hn.out _).mono ?_;rintro e M ⟨rfl,t4,V⟩;have ad:Below u.heap.size u M:=by rw[V];exact G.trans (Go.Joins.below_bytesWorld _ _ _ _ G.size)
      clear V m2 m3 m4 F n0 a d f;obtain⟨m1,m2,m3,m4⟩:=r.out M ad;have F:=m3.text;obtain⟨n0,a,d,f⟩:M.cell? ⟨w.heap.size,0,none⟩=some (.int .i64 0)/\M.cell? ⟨w.heap.size,1,none⟩=some (.int .i64 0)/\M.cell? ⟨w.heap.size,2,none⟩=some (.int .i64 0)/\M.cell? ⟨w.heap.size,3,none⟩=some (.string ⟨#[]⟩):=⟨m1 0,m1 1,m1 2,m1 3⟩;clear m1;go_wp2_with fail;refine bodyPost_ret (v:= .tuple #[.agg (cL 2 i n (s.extract i E)).toArray,.int .i64 (E:Nat),.int .i64 0]) (by simp[results,cL,results128,go_sem,n0,a,d,f]) rfl ?_;exact⟨⟨2,i,n,s.extract i E,E,0,rfl,⟨fun _=>⟨q,hle,by simp;omega⟩,fun h=>absurd (hC.symm.trans h) (by decide),fun h=>absurd (hC.symm.trans h) (by decide),fun _=>by decide⟩⟩,fH m4 bW _ _ _ _⟩
   .have d13:decide ((13:Int)<(E:Int) -(i:Int))=true:=by simp;omega
    clear m1;go_wp2_with fail;refine bodyPost_ret (v:= .tuple #[.agg (cL 0 0 0 ⟨#[]⟩).toArray,.int .i64 (0:Nat),.int .i64 4]) (by simp[results,cL,results128,go_sem,n0,a,d,f]) rfl ?_;exact⟨⟨0,0,0,⟨#[]⟩,0,4,rfl,hN⟩,fH m4 bW _ _ _ _⟩
  .have d4:(C==4)=false:=by simpa using c4
   by_cases c6:C=6
   .subst c6;obtain⟨m1,m2,m3,m4⟩:=r.out m g;have F:=m3.text;clear m1 m2 m3 m4;have J:∀err:Int,err≠0->jB s i 0 ⟨#[]⟩ 0 err:=fun err he=>⟨fun h=>absurd h he,fun h=>absurd (hC.symm.trans h) (by decide),fun h=>absurd (hC.symm.trans h) (by decide),fun _=>by decide⟩;go_wp2_with fail;obtain⟨rest,x⟩:∃rest,s.extract (i+1) s.size=rest:=⟨_,rfl⟩;have aG:rest.size=s.size-(i+1):=by rw[<-x];simp
    rw[x];clear x F;refine(vA rest ⟨#[34,10]⟩ rfl (fun j D=>by
     have aD:j<2:=D;rcases (by omega:j=0\/j=1)with rfl |rfl
     .show(34:UInt8).toNat<128;decide
     .show(10:UInt8).toNat<128;decide) (by omega) m).mono ?_
    rintro e l ⟨⟨k,aE,aF,rfl⟩,y⟩;have o:=g.trans (y.mono g.size);obtain⟨m1,m2,m3,m4⟩:=r.out l o;have F:=m3.text;obtain⟨n0,a,d,f⟩:l.cell? ⟨w.heap.size,0,none⟩=some (.int .i64 0)/\l.cell? ⟨w.heap.size,1,none⟩=some (.int .i64 0)/\l.cell? ⟨w.heap.size,2,none⟩=some (.int .i64 0)/\l.cell? ⟨w.heap.size,3,none⟩=some (.string ⟨#[]⟩):=⟨m1 0,m1 1,m1 2,m1 3⟩;clear m1;by_cases ak:k<0
    .have e0:decide (k<0)=true:=by simpa using ak
     go_wp2_with fail;refine bodyPost_ret (v:= .tuple #[.agg (cL 0 0 0 ⟨#[]⟩).toArray,.int .i64 (0:Nat),.int .i64 6]) (by simp[results,cL,results128,go_sem,n0,a,d,f]) rfl ?_;exact⟨⟨0,0,0,⟨#[]⟩,0,6,rfl,J 6 (by decide)⟩,fH m4 bW _ _ _ _⟩
    .obtain⟨n,rfl⟩:∃n:Nat,k=n:=⟨k.toNat,by omega⟩;have an:n<rest.size:=by omega
     have e0:decide ((n:Int)<0)=false:=by simp
     obtain⟨c,hc⟩:∃c,rest[n]'an=c:=⟨_,rfl⟩;by_cases O:c=10
     .have e1:((c.toNat:Int)==10)=true:=by rw[O];rfl
      go_wp2_with fail;refine bodyPost_ret (v:= .tuple #[.agg (cL 0 0 0 ⟨#[]⟩).toArray,.int .i64 (0:Nat),.int .i64 6]) (by simp[results,cL,results128,go_sem,n0,a,d,f]) rfl ?_;exact⟨⟨0,0,0,⟨#[]⟩,0,6,rfl,J 6 (by decide)⟩,fH m4 bW _ _ _ _⟩
     .have e1:((c.toNat:Int)==10)=false:=by
       rw[beq_eq_false_iff_ne];intro e;exact O (UInt8.toNat_inj.1 (by show c.toNat=10;omega))
      by_cases az:n<=400
      .have e2:decide ((400:Int)<(n:Int))=false:=by simp;omega
       go_wp2_with fail;refine bodyPost_ret (v:= .tuple #[.agg (cL 3 i 0 (rest.extract 0 n)).toArray,.int .i64 ((i+n+2:Nat):Int),.int .i64 0]) (by simp[results,cL,results128,go_sem,n0,a,d,f]) rfl ?_;exact⟨⟨3,i,0,rest.extract 0 n,i+n+2,0,rfl,⟨fun _=>⟨by omega,by omega,by simp;omega⟩,fun h=>absurd (hC.symm.trans h) (by decide),fun h=>absurd (hC.symm.trans h) (by decide),fun _=>by decide⟩⟩,fH m4 bW _ _ _ _⟩
      .have e2:decide ((400:Int)<(n:Int))=true:=by simp;omega
       go_wp2_with fail;refine bodyPost_ret (v:= .tuple #[.agg (cL 0 0 0 ⟨#[]⟩).toArray,.int .i64 (0:Nat),.int .i64 2]) (by simp[results,cL,results128,go_sem,n0,a,d,f]) rfl ?_;exact⟨⟨0,0,0,⟨#[]⟩,0,2,rfl,J 2 (by decide)⟩,fH m4 bW _ _ _ _⟩
   .have d6:(C==6)=false:=by simpa using c6
    have J:∀err:Int,err≠0->jB s i 0 ⟨#[]⟩ 0 err:=fun err he=>⟨fun h=>absurd h he,fun h=>absurd (hC.symm.trans h) c3,fun h=>absurd (hC.symm.trans h) c3,fun _=>by decide⟩;have S:∀(t:ByteArray) (z:Nat),t.size<=s.size->i<z->z<=s.size->jB s i 4 t z 0:=fun t z h1 h2 h3=>⟨fun _=>⟨h2,h3,h1⟩,fun h=>absurd (hC.symm.trans h) c3,fun h=>absurd (hC.symm.trans h) c3,fun _=>by decide⟩;obtain⟨m1,m2,m3,m4⟩:=r.out m g;have F:=m3.text;obtain⟨n0,a,d,f⟩:m.cell? ⟨w.heap.size,0,none⟩=some (.int .i64 0)/\m.cell? ⟨w.heap.size,1,none⟩=some (.int .i64 0)/\m.cell? ⟨w.heap.size,2,none⟩=some (.int .i64 0)/\m.cell? ⟨w.heap.size,3,none⟩=some (.string ⟨#[]⟩):=⟨m1 0,m1 1,m1 2,m1 3⟩;clear m1;by_cases af:C=7\/C=8
    .rcases af with rfl |rfl
     .go_wp2_with fail;refine(strings_HasPrefix (s.extract (i+1) s.size) ⟨#[61]⟩ m).mono ?_;rintro e l ⟨rfl,rfl⟩;cases hp:hasPrefix (s.extract (i+1) s.size).data.toList (⟨#[61]⟩:ByteArray).data.toList with
      |true=>
       have hlen:i+2<=s.size:=by
        rcases Nat.lt_or_ge s.size (i+2)with q |p
        .exfalso;have:(s.extract (i+1) s.size).data.toList=[]:=length_eq_zero_iff.1 (by rw[<-Lib.size_eq];simp;omega);rw[this]at hp;revert hp;decide
        .exact p
       have Z:=bP hp;clear hp;go_wp2_with fail;refine bodyPost_ret (v:= .tuple #[.agg (cL 4 i 0 (s.extract i (i+2))).toArray,.int .i64 ((i+2:Nat):Int),.int .i64 0]) (by simp[results,cL,results128,go_sem,n0,a,d,f]) rfl ?_;exact⟨⟨4,i,0,s.extract i (i+2),i+2,0,rfl,S _ _ (by simp;omega) (by omega) (by omega)⟩,fH m4 bW _ _ _ _⟩
      |false=>
       have Z:=bP hp;clear hp;go_wp2_with fail;refine bodyPost_ret (v:= .tuple #[.agg (cL 0 0 0 ⟨#[]⟩).toArray,.int .i64 (0:Nat),.int .i64 3]) (by simp[results,cL,results128,go_sem,n0,a,d,f]) rfl ?_;exact⟨⟨0,0,0,⟨#[]⟩,0,3,rfl,J 3 (by decide)⟩,fH m4 bW _ _ _ _⟩
     .go_wp2_with fail;refine(strings_HasPrefix (s.extract (i+1) s.size) ⟨#[61]⟩ m).mono ?_;rintro e l ⟨rfl,rfl⟩;cases hp:hasPrefix (s.extract (i+1) s.size).data.toList (⟨#[61]⟩:ByteArray).data.toList with
      |true=>
       have hlen:i+2<=s.size:=by
        rcases Nat.lt_or_ge s.size (i+2)with q |p
        .exfalso;have:(s.extract (i+1) s.size).data.toList=[]:=length_eq_zero_iff.1 (by rw[<-Lib.size_eq];simp;omega);rw[this]at hp;revert hp;decide
        .exact p
       have Z:=bP hp;clear hp;go_wp2_with fail;refine bodyPost_ret (v:= .tuple #[.agg (cL 4 i 0 (s.extract i (i+2))).toArray,.int .i64 ((i+2:Nat):Int),.int .i64 0]) (by simp[results,cL,results128,go_sem,n0,a,d,f]) rfl ?_;exact⟨⟨4,i,0,s.extract i (i+2),i+2,0,rfl,S _ _ (by simp;omega) (by omega) (by omega)⟩,fH m4 bW _ _ _ _⟩
      |false=>
       have Z:=bP hp;clear hp;go_wp2_with fail;refine bodyPost_ret (v:= .tuple #[.agg (cL 4 i 0 (s.extract i (i+1))).toArray,.int .i64 ((i+1:Nat):Int),.int .i64 0]) (by simp[results,cL,results128,go_sem,n0,a,d,f]) rfl ?_;exact⟨⟨4,i,0,s.extract i (i+1),i+1,0,rfl,S _ _ (by simp;omega) (by omega) (by omega)⟩,fH m4 bW _ _ _ _⟩
    .have d7:(C==7)=false:=by simp;omega
     have d8:(C==8)=false:=by simp;omega
     by_cases c9:C=9
     .subst c9;go_wp2_with fail;refine bodyPost_ret (v:= .tuple #[.agg (cL 4 i 0 (s.extract i (i+1))).toArray,.int .i64 ((i+1:Nat):Int),.int .i64 0]) (by simp[results,cL,results128,go_sem,n0,a,d,f]) rfl ?_;exact⟨⟨4,i,0,s.extract i (i+1),i+1,0,rfl,S _ _ (by simp;omega) (by omega) (by omega)⟩,fH m4 bW _ _ _ _⟩
     .have d9:(C==9)=false:=by simpa using c9
      go_wp2_with fail;refine bodyPost_ret (v:= .tuple #[.agg (cL 0 0 0 ⟨#[]⟩).toArray,.int .i64 (0:Nat),.int .i64 3]) (by simp[results,cL,results128,go_sem,n0,a,d,f]) rfl ?_;exact⟨⟨0,0,0,⟨#[]⟩,0,3,rfl,J 3 (by decide)⟩,fH m4 bW _ _ _ _⟩
theorem tr (c:Nat):dJ c=3↔jG (c:Int)=true:=by
 unfold jG dJ;constructor
 .intro h;repeat' split at h;all_goals first |omega |(simp;omega)
 .intro h;simp at h;rw[if_pos (by omega)]
theorem po (c:Nat):[3,4,5].contains (dJ c)=true↔lN (c:Int)=true:=by
 unfold lN jG si dJ;constructor
 .intro h;repeat' split at h;all_goals first |(simp;omega) |(simp at h)
 .intro h;simp at h;by_cases h1:97<=c/\c<=122\/65<=c/\c<=90
  .rw[if_pos h1];rfl
  .rw[if_neg h1];by_cases a:48<=c/\c<=57
   .rw[if_pos a];rfl
   .rw[if_neg a,if_pos (by omega)];rfl
theorem nH {α:Type}(p:α->Bool):∀l:List α,(∀c∈l,p c=true)->l.takeWhile p=l
 |[],_=>rfl
 |a::l,h=>by rw[takeWhile_cons,if_pos (h a (by simp)),nH p l (fun c b=>h c (by simp[b]))]
theorem mw (l:List UInt8):df l=true↔dt l 0=3/\dn l [3,4,5] 0=l.length/\l.length<=24:=by
 have hw:dn l [3,4,5] 0=l.length↔∀c∈l,lN (c.toNat:Int)=true:=by
  unfold dn;rw[Nat.zero_add,drop_zero];constructor
  .intro h c b;have he:l.takeWhile (fun c=>[3,4,5].contains (dJ c.toNat))=l:=(takeWhile_prefix _).eq_of_length h;rw[<-po];have f:(l.takeWhile fun c:UInt8=>[3,4,5].contains (dJ c.toNat)).all (fun c=>[3,4,5].contains (dJ c.toNat))=true:=all_takeWhile;rw[he]at f;exact all_eq_true.1 f c b
  .intro h;congr 1;refine nH _ _ (fun c b=>?_);rw[po];exact h c b
 unfold df;simp only[Bool.and_eq_true,decide_eq_true_eq,all_eq_true];rw[hw];cases l with
 |nil=>simp[dt]
 |cons a l=>
  have b:dt (a::l) 0=3↔jG (a.toNat:Int)=true:=tr _;rw[b];simp;constructor
  .rintro⟨⟨h1,d⟩,e⟩;exact⟨e,h1,d⟩
  .rintro⟨e,h1,d⟩;exact⟨⟨h1,d⟩,e⟩
structure Tok where
 kind:Int
 pos:Int
 num:Int
 text:ByteArray
def Tok.cells (t:Tok):List Value:=cL t.kind t.pos t.num t.text
def gy (l:List Tok):List Value:=(l.map Tok.cells).flatten
theorem zM (l:List Tok)(t:Tok):gy (l++[t])=gy l++t.cells:=by simp[gy]
def qw (s:ByteArray)(T:List Tok):Prop:=∃t,T=[t]/\t.kind=1/\t.text=s
def kS (s:ByteArray)(T:List Tok)(i:Nat):Prop:=
 (T=[]/\(dt (bl s) 0≠1->dt (bl s) 0≠2->i=0))\/(qw s T/\df (bl s)=true/\i=s.size)\/(T≠[]/\¬qw s T/\df (bl s)=false)
theorem D7 {T:List Tok}(h:kS s T i)(f:i<s.size){kind:Int}{text:ByteArray}{b:Nat}{err:Int}(d:jB s i kind text b err)(he:err≠0):df (bl s)=false:=by
 rcases h with ⟨_,c⟩ |⟨_,_,a⟩ |⟨_,_,a⟩
 .rw[<-Bool.not_eq_true,mw];rintro⟨h1,e,a⟩;obtain rfl:=c (by rw[h1];decide) (by rw[h1];decide);exact he (d.2.1 h1 (by omega)).1
 .omega
 .exact a
theorem yj {a b:Nat}(c:b<=s.size)(h:s.extract a b=s)(d:0<s.size):a=0/\b=s.size:=by
 have:=congrArg ByteArray.size h;simp at this;omega
theorem wZ {T:List Tok}(h:kS s T i)(v:i<s.size){t:Tok}{c:Nat}(p:jB s i t.kind t.text c 0):
  kS s (T++[t]) c:=by
 obtain⟨h1,d,f,n⟩:=p;obtain⟨q,hle,_⟩:=h1 rfl;rcases h with ⟨rfl,m⟩ |⟨_,_,f⟩ |⟨j,u,g⟩
 .cases b:df (bl s)with
  |true=>
   obtain⟨c1,c2,c3⟩:=(mw _).1 b;obtain rfl:=m (by rw[c1];decide) (by rw[c1];decide);obtain⟨_,k1,k2,k3⟩:=d c1 (by omega);refine .inr (.inl ⟨⟨t,rfl,k1,?_⟩,b,by rw[k3,c2,b9]⟩);rw[k2,c2,b9];simp
  |false=>
   refine .inr (.inr ⟨by simp,?_,b⟩);rintro⟨k,e,k1,k2⟩;obtain rfl:t=k:=by simpa using e
   have c1:dt (bl s) i=3:=Classical.byContradiction fun o=>n o k1;have c2:dn (bl s) [3,4,5] i-i<=24:=by
    rcases Nat.lt_or_ge 24 (dn (bl s) [3,4,5] i-i)with h |h
    .exact absurd rfl (f c1 h)
    .exact h
   obtain⟨_,_,k3,w⟩:=d c1 c2;obtain⟨rfl,l⟩:=yj (by have:=lj (bl s) [3,4,5] i (by rw[b9];omega);rwa [b9]at this) (k3.symm.trans k2) (by omega);rw[<-Bool.not_eq_true,mw]at b;exact b ⟨c1,by rw[l,b9],by rw[b9];omega⟩
 .omega
 .refine .inr (.inr ⟨by simp,?_,g⟩);rintro⟨k,e,k1,k2⟩;cases T with
  |nil=>exact j rfl
  |cons a r=>simp at e
theorem D6 {T:List Tok}(h:kS s T i)(f:s.size<=i):qw s T↔df (bl s)=true:=by
 rcases h with ⟨rfl,b⟩ |⟨h1,a,_⟩ |⟨_,a,c⟩
 .constructor
  .rintro⟨t,e,_⟩;simp at e
  .intro d;exfalso;obtain⟨c1,c2,c3⟩:=(mw _).1 d;obtain rfl:=b (by rw[c1];decide) (by rw[c1];decide);have:bl s=[]:=length_eq_zero_iff.1 (by rw[b9];omega);rw[this]at c1;revert c1;decide
 .exact⟨fun _=>a,fun _=>h1⟩
 .exact⟨fun h=>absurd h a,fun h=>by rw[c]at h;exact absurd h (by decide)⟩
theorem D8 {T:List Tok}{g:Nat}(h:kS s T i)(b:T≠[])(e:i<=g)(c:g<=s.size):kS s T g:=by
 rcases h with ⟨h1,_⟩ |⟨h1,a,d⟩ |h
 .exact absurd h1 b
 .exact .inr (.inl ⟨h1,a,by omega⟩)
 .exact .inr (.inr h)
theorem pI (d:Nat):∀(l:List Value) (k:Nat) (Z:Array Value),((l.zipIdx k).foldl (fun cs x=>cs.setIfInBounds (d+x.2) x.1) Z).size=Z.size/\
  ∀j:Nat,(d+k+l.length<=Z.size)->((l.zipIdx k).foldl (fun cs x=>cs.setIfInBounds (d+x.2) x.1) Z)[j]?=if d+k<=j/\j<d+k+l.length then l[j-(d+k)]? else Z[j]?
 |[],k,Z=>⟨rfl,fun j _=>by rw[if_neg (by simp)];rfl⟩
 |a::l,k,Z=>by
  obtain⟨h1,f⟩:=pI d l (k+1) (Z.setIfInBounds (d+k) a);refine⟨by rw[zipIdx_cons,foldl_cons,h1];simp,fun j c=>?_⟩;rw[zipIdx_cons,foldl_cons,f j (by simp at c⊢;omega)];simp only[length_cons]at c⊢;by_cases e:j=d+k
  .subst e;rw[if_neg (by omega),if_pos (by omega)];have:d+k<Z.size:=by omega
   simp[this]
  .by_cases b:d+(k+1)<=j/\j<d+(k+1)+l.length
   .rw[if_pos b,if_pos (by omega)];rw[show j-(d+k)=(j-(d+(k+1)))+1 from by omega,getElem?_cons_succ]
   .rw[if_neg b,if_neg (by omega)];simp[Array.getElem?_setIfInBounds];intro h;omega
theorem C1 (C Z:Array Value)(hC:C.size=256)(b:Z.size=257)(F:Array Value)(hF:Array.foldl (fun cs (x:Value×Nat)=>cs.setIfInBounds (1+x.snd) x.fst) Z C.zipIdx 0 256=F):
  F.size=257/\F[0]?=Z[0]?/\∀c,c<256->F[1+c]?=C[c]?:=by
 have d:F=(C.toList.zipIdx 0).foldl (fun cs (x:Value×Nat)=>cs.setIfInBounds (1+x.snd) x.fst) Z:=by
  rw[<-hF,show(256:Nat)=C.zipIdx.size from by simp[hC],<-Array.foldl_toList,Array.toList_zipIdx]
 obtain⟨h1,a⟩:=pI 1 C.toList 0 Z;rw[<-d]at h1 a;have e:C.toList.length=256:=by simpa using hC
 refine⟨by rw[h1,b],?_,fun c f=>?_⟩
 .rw[a 0 (by omega),if_neg (by omega)]
 .rw[a (1+c) (by omega),if_pos (by omega)];simp
def DN (s:ByteArray)(w:World)(e:Ending)(w':World):Prop:=
 ∃a c err off T,e= .returned (.tuple #[.slice a T.length c,.int .i64 err,.int .i64 off])/\T.length<=5000/\b8 w' w'.heap.size a (gy T)/\
  (df (bl s)=true↔err=0/\qw s T)/\Below w.heap.size w w'
theorem C3:(prog.info? 129).map (fun i=>(i.zero,i.size,i.bytes))=some (some (.agg #[.int .i64 0,.int .i64 0,.int .i64 0,.string ⟨#[]⟩]),4,40):=by kernel_rfl
theorem ti (s:ByteArray)(hs:s.size<=maxLen)(w:World):
  Calls prog 74 #[.string s] w (DN s w):=by
 unfold maxLen at hs;go_enter func74,ntmps74;by_cases hl:s.size<=20000
 .have d1:decide ((20000:Int)<(s.size:Int))=false:=by simp;omega
  go_wp2_with fail;refine(xX w).mono ?_;rintro e b ⟨rfl,A⟩;generalize hC:gv pq=C;have ad:C.size=256:=by rw[<-hC];rfl
  have hF:=C1 C (zeroCells191.setIfInBounds 0 (.string s)) ad (by simp) _ rfl;have ae:=hF.1;have HF:=bP hF.2;have HC:=bP hC;clear hC hF;go_wp2_with fail;generalize r:Array.foldl (fun cs (x:Value×Nat)=>cs.setIfInBounds (1+x.snd) x.fst) (zeroCells191.setIfInBounds 0 (.string s)) C.zipIdx 0 256=F at *;clear r;have H:(b.alloc (Obj.cells zeroCells191 191)).heap[b.heap.size]?=some (.cells zeroCells191 191 (0,0)):=heap_alloc_new b _;have Y:zeroCells191.size=257:=by kernel_rfl
  have r:F[0]?=some (.string s):=by rw[HF.out.1];simp[Y]
  have R:∀c,c<256->F[1+c]?=some (.int .i64 (dJ c)):=fun c hc=>by
   rw[HF.out.2 c hc,<-HC.out,r9 pq c (by simp[pq];omega)];simp[pq]
  have V:∀v∈F.toList,v.oneCell'=true:=fun v hv=>by
   obtain⟨j,Q⟩:=getElem?_of_mem hv;rw[Array.getElem?_toList]at Q;have aW:j<257:=by have:=(Array.getElem?_eq_some_iff.1 Q).1;omega
   cases j with
   |zero=>rw[r]at Q;cases Q;rfl
   |succ c=>rw[Nat.add_comm,R c (by omega)]at Q;cases Q;rfl
  have al:=run_storeCells_from (P:=prog) b.heap.size 191 F.toList 0 zeroCells191 (b.alloc (Obj.cells zeroCells191 191)) H (by rw[Y];simp[ae]) V;rw[al];simp only[Result.andThen_ok];rw[Oper.upon_skip];have q:Below w.heap.size w ((b.alloc (Obj.cells zeroCells191 191)).setRow b.heap.size (zeroCells191.toList.take 0++F.toList).toArray):=below_setRow (A.alloc A.size _) A.size _;have u:Blk ((b.alloc (Obj.cells zeroCells191 191)).setRow b.heap.size (zeroCells191.toList.take 0++F.toList).toArray) b.heap.size F 191:=by
   have:=setRow_heap _ b.heap.size zeroCells191 (zeroCells191.toList.take 0++F.toList).toArray 191 _ H;have e:(zeroCells191.toList.take 0++F.toList).toArray=F:=by simp
   rw[e]at this⊢;exact this
  generalize (b.alloc (Obj.cells zeroCells191 191)).setRow b.heap.size (zeroCells191.toList.take 0++F.toList).toArray=p at q u⊢;have N:gM p b.heap.size s:=⟨(u.cell 0).trans r,fun c hc=>(u.cell (1+c)).trans (R c hc)⟩;have m:=u.lt;have aw:=A.size;obtain⟨Z,aj⟩:∃Z,b.heap.size=Z:=⟨_,rfl⟩;rw[aj]at N m aw⊢;clear al H V R r HF HC ae Y ad u aj A;have ak:s.size<=maxLen:=by unfold maxLen;omega
  go_wp2_with fail;refine(yQ Z s 0 (zero_le _) ak p N m).mono ?_;rintro e w2 ⟨⟨g0,rfl,_,aD,S⟩,aC⟩;have af:kS s [] g0:= .inl ⟨rfl,S⟩;have ay:=bP af;clear af S;obtain⟨i0,hi,aG,aH,aI⟩:=info_parts C3;go_wp2_with fail;go_loopw [6,7] (fun out i wr=>∃(T:List Tok) (k:Nat),i= .int .i64 k/\k<=s.size/\T.length<=5000/\wr.ownsRow p.heap.size 129 4 out T.length (gy T)/\kS s T k/\Below p.heap.size p wr) (fun _ i _=>s.size-(intOf i).toNat);case atStart=>exact⟨[],g0,rfl,aD,by simp,ownsRow_nil _ _ _ _,ay.out,aC⟩
  case round=>
   obtain⟨T,k,rfl,hk,hT,X,hinv,B⟩:=hrel;have l:=bP X;have f:=bP hinv;clear X hinv;have ar:=q.trans (B.mono q.size);have aS:=B.size;by_cases L:k<s.size
   .go_wp2_with fail;refine(Dg Z s k L (by omega) wr (N.below B m) (by omega)).mono ?_;rintro e w3 ⟨⟨kind,at_,n,text,en,err,rfl,O⟩,ag⟩;have G:=B.trans (ag.mono B.size);have HP:=bP O;have d:=q.trans (G.mono q.size);clear O;unfold cL;by_cases he:err=0
    .subst he;by_cases y:T.length=5000
     .have d5:((T.length:Int)==5000)=true:=by simp[y]
      obtain⟨a,c,z,I,E⟩:=b8.ah l.out;rw[z];have aA:=bP (show df (bl s)=false by
       have h1:=wZ (t:=⟨kind,at_,n,text⟩) f.out L HP.out;rcases h1 with ⟨h2,_⟩ |⟨⟨t,h2,_⟩,_⟩ |⟨_,_,h3⟩
       .simp at h2
       .have:=congrArg length h2;simp at this;simp[this]at y
       .exact h3)
      have aU:=bP y;clear y;go_wp2_with fail;go_ret3;refine⟨none,0,2,_,[],rfl,by simp,fun h=>by simp[gy]at h,?_,?_⟩
      .rw[aA.out];simp
      .exact d.alloc d.size _
     .have d5:((T.length:Int)==5000)=false:=by simp;omega
      obtain⟨a,c,z,I,E⟩:=b8.ah l.out;subst z;have aV:T.length<5000:=by omega
      clear y;have o:=(cJ l.out ag).alloc (.cells #[.int .i64 kind,.int .i64 at_,.int .i64 n,.string text] 129);have aF:=G.size;have aR:=d.size;go_wp2_with (at_builtin;refine wpList_append_own _ rfl _ _ 125 rfl p.heap.size 129 i0 _ 4 40 underlying125 hi aG aH aI rfl (by decide) _ _ _ rfl (o.alloc _) ⟨w3.heap.size+1,0,none⟩ 1 1 [.int .i64 kind,.int .i64 at_,.int .i64 n,.string text] rfl rfl ?c1 ?c2 ?c3 ?c4 ?c5 ?_);case c1=>
       have:=dQ (w3.alloc (.cells #[.int .i64 kind,.int .i64 at_,.int .i64 n,.string text] 129)) [.int .i64 kind,.int .i64 at_,.int .i64 n,.string text] 129;simpa using this
      case c2=>simp[Value.oneCell']
      case c3=>unfold maxLen;omega
      case c4=>omega
      case c5=>simp;omega
      intro v' w4 M D _;obtain⟨g,cap,rfl⟩:=iS M;have J:Below p.heap.size p w4:=((G.alloc aF _).alloc (by simp;omega) _).grown D (by simp;omega) (fun k hk=>(o.lt k hk).1);clear D o E I d5;have O:=HP.out;have hle:en<=s.size:=(O.1 rfl).2.1;have aP:k<en:=(O.1 rfl).1;clear O;have ab:=N.below J m;go_wp2_with fail;refine(yQ Z s en hle ak w4 ab (by have:=J.size;omega)).mono ?_;rintro e w5 ⟨⟨g5,rfl,aE,U,_⟩,ai⟩;go_wp2_with fail;refine⟨⟨T++[⟨kind,at_,n,text⟩],g5,rfl,U,?_,?_,?_,J.trans (ai.mono J.size)⟩,?_⟩
      .simp;omega
      .rw[zM];have:=cJ M ai;simpa [Tok.cells,cL]using this
      .exact D8 (wZ (t:=⟨kind,at_,n,text⟩) f.out L HP.out) (by simp) aE U
      .simp[intOf];omega
    .have e1:(err==0)=false:=by simpa using he
     have e2:(err != 0)=true:=by simpa using he
     have He:=bP he;clear he;go_wp2_with fail;go_ret3;refine⟨none,0,err,_,[],rfl,by simp,fun h=>by simp[gy]at h,?_,?_⟩
     .rw[D7 f.out L HP.out He.out];simp[He.out]
     .exact d.alloc d.size _
   .have hinv:=bP (D6 f.out (by omega));obtain⟨a,c,z,I,E⟩:=b8.ah l.out;subst z;have aB:=bP E;clear E I;go_wp2_with fail;go_ret3;exact⟨a,c,0,0,T,rfl,hT,aB.out,by rw[<-hinv.out];simp,ar⟩
 .have d1:decide ((20000:Int)<(s.size:Int))=true:=by simp;omega
  go_wp2_with fail;go_ret3;refine⟨none,0,2, -1,[],rfl,by simp,fun h=>by simp[gy]at h,?_,bX⟩;constructor
  .intro hb;have:=((mw _).1 hb).2.2;rw[b9]at this;omega
  .rintro⟨h,_⟩;exact absurd h (by decide)
end
end Go.Proofs.YtmhdgddjeadjjaaGreatDoor
