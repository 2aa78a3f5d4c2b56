/- AB -/
import Derived.Test.YtmhdgddjeadjjaaGreatDoorP13
namespace Go.Proofs.YtmhdgddjeadjjaaGreatDoor
open _root_.List Go.Lib _root_.Nat Go.World _root_.Int Go.Proofs.Tryz
variable {cs:Array Value}{s:ByteArray}{D a b x:Nat}{t:TypeId}{w w1:World}{A:cr}
section
open Go.RowKit Classical
open Go.Shelf
attribute [local go_sem] Oper.semAt_some
def fE (L:List (List UInt8)):Nat->List UInt8->Nat->List (Nat×Int)
 |0,_,_=>[]
 |f+1,t,o=>if t=[] then [] else match atF L t with
  |none=>[(o, -1)]
  |some k=>(o,(k:Int))::fE L f (t.drop ((L[k]?.getD []).length)) (o+(L[k]?.getD []).length)
theorem C8 (L:List (List UInt8))(f o:Nat):fE L f [] o=[]:=by cases f<;>simp[fE]
theorem xb (L:List (List UInt8)):∀(f:Nat) (t:List UInt8) (o:Nat) (y:Nat×Int),y∈fE L f t o->0<=y.2\/y.2= -1
 |0,_,_,_,h=>by simp[fE]at h
 |f+1,t,o,y,h=>by
  rw[fE]at h;by_cases a:t=[]
  .rw[if_pos a]at h;simp at h
  .rw[if_neg a]at h;cases hk:atF L t with
   |none=>rw[hk]at h;simp at h;rw[h];exact .inr rfl
   |some k=>
    rw[hk]at h;rcases mem_cons.1 h with rfl |h
    .left;simp
    .exact xb L f _ _ y h
theorem sE (L:List (List UInt8)):∀(c f:Nat) (t:List UInt8) (o:Nat) (acc:List Int) (b:List (Nat×Int)),(∀l∈L,1<=l.length)->t.length<c->fE L c t o=b->(∀y∈b,0<=y.2)->b.length<=f->
  dc L f t o acc=⟨acc++b.map (·.2),0,0⟩
 |0,_,t,_,_,_,_,h,_,_,_=>by omega
 |c+1,f,t,o,acc,b,j,p,a,g,hlen=>by
  rw[fE]at a;by_cases d:t=[]
  .subst d;simp at a;subst a;simp[sO]
  .rw[if_neg d]at a;cases hk:atF L t with
   |none=>
    rw[hk]at a;subst a;have:=g (o, -1) (by simp);simp at this
   |some k=>
    rw[hk]at a;simp only at a;obtain⟨l,i,hp,h1,_⟩:=lZ hk;rw[i]at a;simp only[Option.getD_some]at a;subst a;obtain⟨e,rfl⟩:∃e,f=e+1:=⟨f-1,by simp at hlen;omega⟩;rw[kP d hk i];have n:0<t.length:=length_pos_iff.2 d;rw[sE L c e _ _ _ _ j (by rw[length_drop];omega) rfl (fun y m=>g y (by simp[m])) (by simpa using hlen),map_cons,append_assoc];rfl
theorem sD (L:List (List UInt8)):∀(c f:Nat) (t:List UInt8) (o:Nat) (acc:List Int) (pre rest:List (Nat×Int)) (d:Nat),(∀l∈L,1<=l.length)->t.length<c->fE L c t o=pre++(d, -1)::rest->(∀y∈pre,0<=y.2)->pre.length<=f->
  dc L f t o acc=⟨[],3,d⟩
 |0,_,t,_,_,_,_,_,_,h,_,_,_=>by omega
 |c+1,f,t,o,acc,pre,rest,d,j,q,a,i,hlen=>by
  rw[fE]at a;by_cases b:t=[]
  .subst b;simp at a
  .rw[if_neg b]at a;cases hk:atF L t with
   |none=>
    rw[hk]at a;cases pre with
    |nil=>simp at a;rw[qP b hk,a.1]
    |cons p pre=>simp at a
   |some k=>
    rw[hk]at a;simp only at a;obtain⟨l,g,hp,h1,_⟩:=lZ hk;rw[g]at a;simp only[Option.getD_some]at a;have n:0<t.length:=length_pos_iff.2 b;cases pre with
    |nil=>simp at a
    |cons p pre=>
     simp only[cons_append,List.cons.injEq]at a;obtain⟨e,rfl⟩:∃e,f=e+1:=⟨f-1,by simp at hlen;omega⟩;rw[kP b hk g];exact sD L c e _ _ _ pre rest d j (by rw[length_drop];omega) a.2 (fun y m=>i y (by simp[m])) (by simpa using hlen)
theorem sF (L:List (List UInt8)):∀(c f:Nat) (t:List UInt8) (o:Nat) (acc:List Int) (pre rest:List (Nat×Int)) (x:Nat×Int),(∀l∈L,1<=l.length)->t.length<c->fE L c t o=pre++x::rest->(∀y∈pre,0<=y.2)->0<=x.2->pre.length=f->
  dc L f t o acc=⟨[],2,x.1⟩
 |0,_,t,_,_,_,_,_,_,h,_,_,_,_=>by omega
 |c+1,f,t,o,acc,pre,rest,x,j,q,a,i,g,hlen=>by
  rw[fE]at a;by_cases b:t=[]
  .subst b;simp at a
  .rw[if_neg b]at a;cases hk:atF L t with
   |none=>
    rw[hk]at a;cases pre with
    |nil=>simp at a;obtain⟨rfl,_⟩:=a;simp at g
    |cons p pre=>simp at a
   |some k=>
    rw[hk]at a;simp only at a;obtain⟨l,e,hp,h1,_⟩:=lZ hk;rw[e]at a;simp only[Option.getD_some]at a;have n:0<t.length:=length_pos_iff.2 b;cases pre with
    |nil=>
     simp at a hlen;subst hlen;rw[qO b hk,<-a.1]
    |cons p pre=>
     simp only[cons_append,List.cons.injEq]at a;obtain⟨d,rfl⟩:∃d,f=d+1:=⟨f-1,by simp at hlen;omega⟩;rw[kP b hk e];exact sF L c d _ _ _ pre rest x j (by rw[length_drop];omega) a.2 (fun y m=>i y (by simp[m])) g (by simpa using hlen)
theorem AQ {L:List (List UInt8)}{t:List UInt8}:∀n,t.length<=n->atN L t n=atN L t t.length:=by
 intro n;induction n with
 |zero=>intro h;rw[le_zero.1 h]
 |succ n a=>
  intro h;rcases Nat.lt_or_ge n t.length with h1 |h1
  .rw[show t.length=n+1 from by omega]
  .rw[atN,if_neg (fun b=>by omega),a h1]
theorem DT {L:List (List UInt8)}{t:List UInt8}{m:Nat}(h:m=min 3 t.length):atN L t m=atN L t 3:=by
 rcases Nat.lt_or_ge t.length 3 with h1 |h1
 .rw[AQ 3 (by omega),show m=t.length from by omega]
 .rw[show m=3 from by omega]
structure gX (a b c:Nat)(W W':World):Prop where
 k1:W'.heap[a]?=W.heap[a]?
 k2:W'.heap[b]?=W.heap[b]?
 k3:W'.heap[c]?=W.heap[c]?
theorem nU {W W':World}(h:W'.heap[a]?=W.heap[a]?)(o:Nat):W'.cell? ⟨a,o,none⟩=W.cell? ⟨a,o,none⟩:=by
 simp only[cell?,h]
theorem gX.refl (a b c:Nat)(W:World):gX a b c W W:=⟨rfl,rfl,rfl⟩
theorem gX.trans {c:Nat}{X Y Z:World}(h:gX a b c X Y)(k:gX a b c Y Z):gX a b c X Z:=⟨k.k1.trans h.k1,k.k2.trans h.k2,k.k3.trans h.k3⟩
theorem gX.drewN {c:Nat}{X Y:World}(h:gX a b c X Y)(n:Nat):gX a b c X (Y.drewN n):=⟨h.k1,h.k2,h.k3⟩
theorem ym (w:World)(n:Nat):w.grownBy (w.drewN n) none:=⟨rfl,rfl,rfl,bW,fun _ _ _=>rfl⟩
set_option maxRecDepth 100000
set_option maxHeartbeats 2000000
theorem yp (n:Nat)(hn:1<=n)(l Bt Bm b:Nat)(A:cr)(aA:A.bls.Nodup)(_hpos:∀l∈A.bls,1<=l.length/\l.length<=3)(s:ByteArray)(hs:s.size<=maxLen)
  (J Jx:List (Nat×Int)->World->Prop)(hJ:∀p W n,J p W->J p (W.drewN n))
  (hY:∀pre x W,J pre W->pre.length<(fE A.bls (s.size+1) (bl s) 0).length->YieldAt Fence.wide (n-1) prog l #[.int .i64 (x.1:Int),.int .i64 x.2] W fun e W'=>
   (e= .returned (.bool true)/\J (pre++[x]) W'/\gX Bt Bm b W W')\/(e= .returned (.bool false)/\Jx (pre++[x]) W'))
  (W:World)(ae:W.cell? ⟨Bt,0,none⟩=some (.string s))(ay:W.cell? ⟨Bm,0,none⟩=some (.map (some b)))(hM:ch W b dR (fe A.letters))(h0:J [] W):
  CallsIn Fence.wide n prog 138 #[.func (.yield l) #[] #[],.pointer (some ⟨Bt,0,none⟩),.pointer (some ⟨Bm,0,none⟩)] W fun e W'=>(∃v,e= .returned v)/\
   ((∃ys,ys=fE A.bls (s.size+1) (bl s) 0/\J ys W')\/(∃pre,pre<+:fE A.bls (s.size+1) (bl s) 0/\Jx pre W')):=by
 have aN:=hs;unfold maxLen at hs;refine callsIn_of_wp func138 rfl trivial ?_ rfl;simp only[ntmps138,size_toArray,length_cons,length_nil,Nat.reduceAdd,Nat.reduceSub,Array.replicate_succ,Array.replicate_zero,push_toArray,append_toArray,nil_append,cons_append];obtain⟨t,O⟩:∃t,fE A.bls (s.size+1) (bl s) 0=t:=⟨_,rfl⟩;have aq:=bP O;rw[O]at hY⊢;clear O;gi_wp2;gi_loopw [4] (fun i wr=>∃(o f:Nat) (pre:List (Nat×Int)),i= .int .i64 o/\o<=s.size/\s.size-o<f/\t=pre++fE A.bls f ((bl s).drop o) o/\J pre wr/\gX Bt Bm b W wr) (fun i _=>s.size-(intOf i).toNat);case atStart=>exact⟨0,s.size+1,[],rfl,zero_le _,by omega,by rw[<-aq.out];rfl,h0,gX.refl _ _ _ _⟩
 case round=>
  obtain⟨o,f,pre,rfl,ho,hf,S,aa,Q⟩:=hrel;have r:=bP S;have G:=bP aa;clear S aa;have ct:wr.cell? ⟨Bt,0,none⟩=some (.string s):=(nU Q.k1 0).trans ae;by_cases aL:o<s.size
  .gi_wp2;refine wpIn_wide.2 ?_;go_quiet (fail);rw[show min (3:Int) (↑s.size-↑o)=((min 3 (s.size-o):Nat):Int)from by omega];obtain⟨m0,ag⟩:∃m0,min 3 (s.size-o)=m0:=⟨_,rfl⟩;rw[ag];obtain⟨X,F⟩:∃X,wr.drewN nq=X:=⟨_,rfl⟩;have ax:gX Bt Bm b W X:=by rw[<-F];exact Q.drewN _
   have Z:J pre X:=by rw[<-F];exact hJ _ _ _ G.out
   rw[F];clear F ct Q G;have ao:=bP Z;obtain⟨T,hT⟩:∃T,(bl s).drop o=T:=⟨_,rfl⟩;have g:T.length=s.size-o:=by rw[<-hT,length_drop,b9]
   have w:=bP hT;have aJ:m0<=3/\m0<=s.size-o:=by omega
   have an:=bP (show atN A.bls T m0=atN A.bls T 3 from DT (by rw[g];omega));have P:T≠[]:=fun e=>by rw[e]at g;simp at g;omega
   have Y:=bP g;have H:=bP P;obtain⟨L,rfl⟩:∃L,f=L+1:=⟨f-1,by omega⟩;clear Z hT ag g P;gi_wp2;gi_loopw [5,6] (fun i5 i6 wx=>∃m:Nat,i5= .int .i64 (-1)/\i6= .int .i64 m/\m<=m0/\atN A.bls T m=atN A.bls T 3/\J pre wx/\gX Bt Bm b W wx) (fun _ i6 _=>(intOf i6).toNat);case atStart=>exact⟨m0,rfl,rfl,bW,an.out,ao.out,ax⟩
   case round=>
    obtain⟨m,rfl,rfl,hm,ad,N,j⟩:=hrel;have I:=bP ad;clear ad;by_cases aw:m=0
    .subst aw;have C:atF A.bls T=none:=I.out.symm;have d:t=pre++(o,(-1:Int))::[]:=by
      rw[r.out,w.out,fE,if_neg H.out,C]
     obtain⟨fn,tmps,assign,body,hy,hR⟩:=hY pre (o,(-1:Int)) wr N (by rw[d];simp);have c:=bP d;clear d C;dsimp only at hy;gi_wp2;refine hR.mono ?_;rintro e W3 (⟨rfl,M,af⟩ |⟨rfl,u⟩)
     .gi_wp2;refine bodyPost_ret (results_none rfl _ _ _) rfl ?_;exact⟨⟨_,rfl⟩,.inl ⟨t,rfl,by rw[c.out];exact M⟩⟩
     .gi_wp2;refine bodyPost_ret (results_none rfl _ _ _) rfl ?_;exact⟨⟨_,rfl⟩,.inr ⟨_,by rw[c.out];exact prefix_refl _,u⟩⟩
    .have aK:IntKind.i64.wrap ((o:Int)+(m:Int))=(o:Int)+(m:Int):=IntWalk.i64_in _ (by omega);have aM:0<=(o:Int)+(m:Int):=by omega
     have aO:((o:Int)+(m:Int)).toNat=o+m:=by omega
     have aI:(o:Int)+(m:Int)<=(s.size:Int):=by omega
     have aE:(0:Int)<(m:Int):=by omega
     have ct:wr.cell? ⟨Bt,0,none⟩=some (.string s):=(nU j.k1 0).trans ae;have cm:wr.cell? ⟨Bm,0,none⟩=some (.map (some b)):=(nU j.k2 0).trans ay;have ab:=hM.block j.k3;obtain⟨piece,a⟩:∃piece,s.extract o (o+m)=piece:=⟨_,rfl⟩;have D:bl piece=T.take m:=by
      rw[<-a,<-w.out];unfold bl;rw[extract_data,show o+m-o=m from by omega]
     by_cases q:piece∈A.letters
     .obtain⟨k,hk⟩:=getElem?_of_mem q;have R:=fun n=>gQ (ab.drewN n) hk;rw[<-a]at R;have y:A.bls[k]?=some (T.take m):=by rw[cr.bls,getElem?_map,hk];simp[D]
      have E:atF A.bls T=some k:=by
       unfold atF;rw[<-I.out];obtain⟨U,rfl⟩:∃U,m=U+1:=⟨m-1,by omega⟩;rw[atN,if_pos ⟨by rw[Y.out];omega,mem_of_getElem? y⟩,idxOf_getElem aA y]
      have z:(T.take m).length=m:=by rw[length_take,Y.out];omega
      have d:t=pre++(o,(k:Int))::fE A.bls L ((bl s).drop (o+m)) (o+m):=by
       rw[r.out,w.out,fE,if_neg H.out,E];simp only[y,Option.getD_some,z];rw[<-w.out,drop_drop]
      have c:=bP d;clear d E y hk q D z a;gi_wp2;refine wpIn_wide.2 ?_;go_quiet (fail);obtain⟨fn,tmps,assign,body,hy,hR⟩:=hY pre (o,(k:Int)) (wr.drewN nq) (hJ _ _ _ N) (by rw[c.out];simp);dsimp only at hy;gi_wp2;refine hR.mono ?_;rintro e W3 (⟨rfl,M,af⟩ |⟨rfl,u⟩)
      .gi_wp2;exact⟨⟨o+m,L,pre++[(o,(k:Int))],by go_num,by omega,by omega,by rw[c.out];simp,M,(j.drewN nq).trans af⟩,by simp[intOf];omega⟩
      .gi_wp2;refine bodyPost_ret (results_none rfl _ _ _) rfl ?_;exact⟨⟨_,rfl⟩,.inr ⟨_,by rw[c.out];exact⟨fE A.bls L ((bl s).drop (o+m)) (o+m),by simp⟩,u⟩⟩
     .have R:=fun n=>gP (ab.drewN n) q;rw[<-a]at R;have B:atN A.bls T (m-1)=atN A.bls T 3:=by
       rw[<-I.out];obtain⟨U,rfl⟩:∃U,m=U+1:=⟨m-1,by omega⟩;rw[atN,if_neg]
       .rfl
       .rintro⟨_,h⟩;obtain⟨l',az,he⟩:=mem_map.1 h;rw[<-D]at he;exact q (cY he▸az)
      have V:=bP B;clear B q D a;gi_wp2;refine wpIn_wide.2 ?_;go_quiet (fail);gi_wp2;exact⟨⟨m-1,rfl,by rw[show((m-1:Nat):Int)=(m:Int) -1 from by omega],by omega,V.out,hJ _ _ _ N,j.drewN nq⟩,by simp[intOf];omega⟩
  .obtain rfl:o=s.size:=by omega
   gi_wp2;go_end0;refine⟨⟨_,rfl⟩,.inl ⟨t,rfl,?_⟩⟩;have:=r.out;rw[drop_of_length_le (by rw[b9];exact bW),C8,append_nil]at this;rw[this];exact G.out
theorem yq (b:Nat)(s:ByteArray)(w:World):
  Calls prog 79 #[.map (some b),.string s] w fun e w'=>e= .returned (.func (.func 138) #[] #[.pointer (some ⟨w.heap.size+1,0,none⟩),.pointer (some ⟨w.heap.size,0,none⟩)])/\
   w'=(w.alloc (.cells #[.map (some b)] 135)).alloc (.cells #[.string s] 9):=by
 go_enter func79,ntmps79;go_wp2;go_ret;exact⟨rfl,rfl⟩
end
section
open Go.RowKit Classical
structure vr (A:cr):Prop where
 nodup:A.bls.Nodup
 len:∀l∈A.bls,1<=l.length/\l.length<=3
theorem cG.ok (h:cG A):vr A:=⟨h.1.nodup,h.1.len⟩
def eL (L:List (List UInt8))(t:List UInt8):List Int:=if t=[] then [] else (cB L t).letters
def eU (L:List (List UInt8))(t:List UInt8)(most:Nat):Prop:=t=[]\/(cB L t).err=0/\(cB L t).letters.length<=most
theorem gx (s:ByteArray):s.toList.isEmpty=true↔bl s=[]:=by
 rw[ByteArray.toList_eq];unfold bl;cases s.data.toList<;>simp
theorem ic (h:bl s≠[]):s.toList.isEmpty=false:=by
 rw[<-Bool.not_eq_true,gx];exact h
theorem iw (h:bl s=[]):s.toList=[]:=by
 rw[ByteArray.toList_eq];exact h
theorem kC {u:Value}{a b:Bool}(h:a=b):Ending.returned (.tuple #[u,.bool a])= .returned (.tuple #[u,.bool b]):=by rw[h]
end
section
open Go.RowKit Classical
open Go.Shelf
attribute [local go_sem] Oper.semAt_some
noncomputable def dG (A:cr)(s:ByteArray):Rd:=if cG A then cB A.bls (bl s) else ⟨[],1,0⟩
def nP (R:Rd)(w:World)(e:Ending)(w':World):Prop:=
 ∃v,e= .returned (.tuple #[v,.int .i64 R.err,.int .i64 R.off])/\w'.ownsRow w.heap.size 3 1 v R.letters.length (nums R.letters)/\Below w.heap.size w w'
theorem lu {F:Fence}{n:Nat}{P:Program}{fn:Func}{R:Ending->World->Prop}{a:Act}{v:Value}
  (d:(results fn a.tmps).run P w= .ok v w)(c:a.defers=[])(b:R (.returned v) w):bodyPostM F n P fn R .ret a w:=by
 show LeavesInM F n P fn a.tmps R a.defers .returning w;rw[c];exact⟨v,d,b⟩
theorem jc {F:Fence}{n:Nat}{P:Program}{fn:Func}{R:Ending->World->Prop}{a:Act}{v:Value}
  (hK:w.heap[D]?=some (.deferred (some [])))(d:(results fn a.tmps).run P (w.putObj D (.deferred none))= .ok v (w.putObj D (.deferred none)))(c:a.defers=[{ target:= .collected D,args:= #[] }])(b:R (.returned v) (w.putObj D (.deferred none))):bodyPostM F n P fn R .ret a w:=by
 show LeavesInM F n P fn a.tmps R a.defers .returning w;rw[c];exact⟨by simp,.inl ⟨_,_,rfl,run_takeDeferred hK,v,d,b⟩⟩
theorem ko {W W':World}{row:Option Nat}(h:Blk W b cs t)(d:W.grownBy W' row)(f:∀r,row=some r->∃o:Obj,W.heap[r]?=some o/\o.isCells=false):Blk W' b cs t:=by
 refine h.grown d (fun e=>?_);obtain⟨ob,a,c⟩:=f _ e.symm;rw[show W.heap[b]?=_ from h]at a;cases a
 cases c
theorem pg {W:World}(h:Blk W b cs t){base size k:Nat}{e:TypeId}{v:Value}{xs:List Value}(a:W.ownsRow base e size v k xs)(c:e≠t){tmp:Obj}(d:(W.alloc tmp).grownBy w1 v.ownBlock){p:Addr}(hp:b≠p.block)(u:Value):
  Blk (w1.setCell p u) b cs t:=
 ((h.alloc tmp).grown d (fun e'=>h.own_ne a c e'.symm)).far hp u
theorem CJ {t1 t2 t3:TypeId}{c1 c2 c3:Value}(h1:Blk w1 (x+1) #[c1] t1)(a:Blk w1 (x+1+1) #[c2] t2)(b:Blk w1 (x+1+1+1) #[c3] t3)(v1 v2 v3:Value){B:Nat}(c:Below B w w1)(d:B<=x):
  (((w1.setCell ⟨x+1,0,none⟩ v1).setCell ⟨x+1+1,0,none⟩ v2).setCell ⟨x+1+1+1,0,none⟩ v3).cell? ⟨x+1,0,none⟩=some v1/\
  (((w1.setCell ⟨x+1,0,none⟩ v1).setCell ⟨x+1+1,0,none⟩ v2).setCell ⟨x+1+1+1,0,none⟩ v3).cell? ⟨x+1+1,0,none⟩=some v2/\
  (((w1.setCell ⟨x+1,0,none⟩ v1).setCell ⟨x+1+1,0,none⟩ v2).setCell ⟨x+1+1+1,0,none⟩ v3).cell? ⟨x+1+1+1,0,none⟩=some v3/\
  Below B w (((w1.setCell ⟨x+1,0,none⟩ v1).setCell ⟨x+1+1,0,none⟩ v2).setCell ⟨x+1+1+1,0,none⟩ v3):=by
 have k1:Blk _ (x+1) #[v1] t1:=((h1.aj 0 v1).far (p:=⟨x+1+1,0,none⟩) (by simp) v2).far (p:=⟨x+1+1+1,0,none⟩) (by show x+1≠x+1+1+1;omega) v3;have k2:Blk _ (x+1+1) #[v2] t2:=((a.far (p:=⟨x+1,0,none⟩) (by simp) v1).aj 0 v2).far (p:=⟨x+1+1+1,0,none⟩) (by simp) v3;have k3:Blk _ (x+1+1+1) #[v3] t3:=((b.far (p:=⟨x+1,0,none⟩) (by show x+1+1+1≠x+1;omega) v1).far (p:=⟨x+1+1,0,none⟩) (by show x+1+1+1≠x+1+1;omega) v2).aj 0 v3;exact⟨k1.cell 0,k2.cell 0,k3.cell 0,((c.setCell (p:=⟨x+1,0,none⟩) (by show B<=x+1;omega) _).setCell (p:=⟨x+1+1,0,none⟩) (by show B<=x+1+1;omega) _).setCell (p:=⟨x+1+1+1,0,none⟩) (by show B<=x+1+1+1;omega) _⟩
theorem xA {R:Rd}(d:dG A s=R)(f:R.letters=[]){W:World}{n:Nat}{tmps:Array Value}{a b c:Nat}(t1:tmps[4]?.getD undef= .pointer (some ⟨a,0,none⟩))(t2:tmps[5]?.getD undef= .pointer (some ⟨b,0,none⟩))(t3:tmps[6]?.getD undef= .pointer (some ⟨c,0,none⟩))
  (m1:W.cell? ⟨a,0,none⟩=some (.slice none 0 0))(m2:W.cell? ⟨b,0,none⟩=some (.int .i64 R.err))(m3:W.cell? ⟨c,0,none⟩=some (.int .i64 R.off))(e:Below w.heap.size w W):
  bodyPostM Fence.wide n prog f45 (nP (dG A s) w) .ret { tmps:=tmps,defers:=[] } W:=by
 refine lu (v:= .tuple #[.slice none 0 0,.int .i64 R.err,.int .i64 R.off]) ?_ rfl ?_
 .simp[results,results45,go_sem,t1,t2,t3,m1,m2,m3]
 .rw[d];refine⟨_,rfl,?_,e⟩;rw[f];exact ownsRow_nil _ _ _ _
def ES (a:World)(o b:Nat)(s:ByteArray)(pre:List (Nat×Int))(W:World):Prop:=
 (∃v,Boxed W o 79 v/\W.ownsRow o 3 1 v pre.length (nums (pre.map (·.2))))/\Blk W (o+1) #[.map (some b)] 135/\Blk W (o+1+1) #[.string s] 9/\(∀y∈pre,0<=y.2)/\pre.length<=24/\Below o a W
def ET (w:World)(c:Code)(pre:List (Nat×Int))(W:World):Prop:=
 c= .ret/\∃a x err,pre=a++[x]/\(∀y∈a,0<=y.2)/\(x.2<0/\err=3/\a.length<=24\/0<=x.2/\err=2/\a.length=24)/\Blk W (w.heap.size+1) #[.slice none 0 0] 79/\Blk W (w.heap.size+1+1) #[.int .i64 err] 33/\Blk W (w.heap.size+1+1+1) #[.int .i64 (x.1:Int)] 3/\Below w.heap.size w W
theorem wU (W:World)(p q r:Addr)(u v x:Value)(B:Nat):KeepsFrom B W (((W.setCell p u).setCell q v).setCell r x):=
 (((KeepsOthers.setCell _ _ _).trans (KeepsOthers.setCell _ _ _)).trans (KeepsOthers.setCell _ _ _)).from _
theorem zw {t1 t2 t3:TypeId}{c1 c2 c3:Value}(h1:Blk w1 (x+1) #[c1] t1)(a:Blk w1 (x+1+1) #[c2] t2)(b:Blk w1 (x+1+1+1) #[c3] t3)(v1 v2 v3:Value){B:Nat}(d:Below B w w1)(c:B<=x):
  Blk (((w1.setCell ⟨x+1,0,none⟩ v1).setCell ⟨x+1+1,0,none⟩ v2).setCell ⟨x+1+1+1,0,none⟩ v3) (x+1) #[v1] t1/\Blk (((w1.setCell ⟨x+1,0,none⟩ v1).setCell ⟨x+1+1,0,none⟩ v2).setCell ⟨x+1+1+1,0,none⟩ v3) (x+1+1) #[v2] t2/\
  Blk (((w1.setCell ⟨x+1,0,none⟩ v1).setCell ⟨x+1+1,0,none⟩ v2).setCell ⟨x+1+1+1,0,none⟩ v3) (x+1+1+1) #[v3] t3/\Below B w (((w1.setCell ⟨x+1,0,none⟩ v1).setCell ⟨x+1+1,0,none⟩ v2).setCell ⟨x+1+1+1,0,none⟩ v3):=
 ⟨((h1.aj 0 v1).far (p:=⟨x+1+1,0,none⟩) (by simp) v2).far (p:=⟨x+1+1+1,0,none⟩) (by show x+1≠x+1+1+1;omega) v3,
 ((a.far (p:=⟨x+1,0,none⟩) (by simp) v1).aj 0 v2).far (p:=⟨x+1+1+1,0,none⟩) (by simp) v3,
 ((b.far (p:=⟨x+1,0,none⟩) (by show x+1+1+1≠x+1;omega) v1).far (p:=⟨x+1+1,0,none⟩) (by show x+1+1+1≠x+1+1;omega) v2).aj 0 v3,
 (CJ h1 a b v1 v2 v3 d c).2.2.2⟩
theorem Fu {W:World}{o:Nat}{e:TypeId}{size n:Nat}{v:Value}{xs:List Value}(h:W.ownsRow o e size v n xs){p q r:Addr}(hp:p.block<o)(b:q.block<o)(c:r.block<o)(u1 u2 u3:Value):(((W.setCell p u1).setCell q u2).setCell r u3).ownsRow o e size v n xs:=by
 have key:∀{W:World} {a:Addr},W.ownsRow o e size v n xs->a.block<o->∀u,(W.setCell a u).ownsRow o e size v n xs:=fun {W a} h d u=>
  cV h (fun e=>by have:=(h.lt _ e).1;omega) u
 exact key (key (key h hp u1) b u2) c u3
theorem jW {W:World}(h:Blk W b cs t)(a:b≠D)(o:Obj):Blk (W.putObj D o) b cs t:=(putObj_heap_other a).trans h
theorem uA {R:Rd}(g:dG A s=R){W:World}{n:Nat}{tmps:Array Value}{c d f:TypeId}{v:Value}(t1:tmps[4]?.getD undef= .pointer (some ⟨x+1,0,none⟩))(t2:tmps[5]?.getD undef= .pointer (some ⟨x+1+1,0,none⟩))(t3:tmps[6]?.getD undef= .pointer (some ⟨x+1+1+1,0,none⟩))
  (i:x+3<D)(hw:w.heap.size<=x)(hK:W.heap[D]?=some (.deferred (some [])))(k1:Blk W (x+1) #[v] c)(k2:Blk W (x+1+1) #[.int .i64 R.err] d)(k3:Blk W (x+1+1+1) #[.int .i64 R.off] f)
  (a:W.ownsRow w.heap.size 3 1 v R.letters.length (nums R.letters))(b:Below w.heap.size w W):
  bodyPostM Fence.wide n prog f45 (nP (dG A s) w) .ret { tmps:=tmps,defers:=[{ target:= .collected D,args:= #[] }] } W:=by
 have m1:=(jW k1 (D:=D) (by omega) (.deferred none)).cell 0;have m2:=(jW k2 (D:=D) (by omega) (.deferred none)).cell 0;have m3:=(jW k3 (D:=D) (by omega) (.deferred none)).cell 0;simp only[getElem?_toArray,getElem?_cons_zero]at m1 m2 m3;refine jc (v:= .tuple #[v,.int .i64 R.err,.int .i64 R.off]) hK ?_ rfl ?_
 .simp[results,results45,go_sem,t1,t2,t3,m1,m2,m3]
 .rw[g];exact⟨_,rfl,ownsRow_putObj a _ hK rfl,b.trans (((Below.refl _ W).grown (grownBy_putObj' W D _) b.size (fun k e=>by cases e;omega)))⟩
set_option maxRecDepth 100000
set_option maxHeartbeats 2000000
theorem lW (A:cr)(v:Value)(s:ByteArray)(hs:s.size<=maxLen)(w:World)(h:cH w w.heap.size v A):
  Calls prog 45 #[v,.string s] w (nP (dG A s) w):=by
 have hA:=h;obtain⟨E,lc,F,G,rfl,hn,aH,bU,bS,U,bV⟩:=h;obtain⟨i0,hi,bu,bw,bx⟩:=info_parts kh;refine(callsIn_wide (n:=5)).1 ?_;refine callsIn_of_wp_marks func45 rfl trivial ?_ rfl;simp only[ntmps45,size_toArray,length_cons,length_nil,Nat.reduceAdd,Nat.reduceSub,Array.replicate_succ,Array.replicate_zero,push_toArray,append_toArray,nil_append,cons_append];refine wpIn_wide.2 ?_;go_wp2_with fail;obtain⟨z,u⟩:∃z:World,z=(((w.alloc (.cells #[.string A.name,.slice E A.letters.length lc,.slice F A.small.length G] 83)).alloc (.cells #[.slice none 0 0] 79)).alloc (.cells #[.int .i64 0] 33)).alloc (.cells #[.int .i64 0] 3):=⟨_,rfl⟩;rw[<-u];have j:Below w.heap.size w z:=by rw[u];exact(((bX.alloc bW _).alloc (by simp) _).alloc (by simp;omega) _).alloc (by simp;omega) _
 have aT:z.heap.size=w.heap.size+4:=by rw[u];simp
 have aN:Blk z w.heap.size #[.string A.name,.slice E A.letters.length lc,.slice F A.small.length G] 83:=by rw[u];exact(((Blk.new _ _ _).alloc _).alloc _).alloc _
 have aO:Blk z (w.heap.size+1) #[.slice none 0 0] 79:=by rw[u];have:=((Blk.new (w.alloc (.cells #[.string A.name,.slice E A.letters.length lc,.slice F A.small.length G] 83)) #[.slice none 0 0] 79).alloc (.cells #[.int .i64 0] 33)).alloc (.cells #[.int .i64 0] 3);simpa using this
 have aP:Blk z (w.heap.size+2) #[.int .i64 0] 33:=by rw[u];have:=(Blk.new ((w.alloc (.cells #[.string A.name,.slice E A.letters.length lc,.slice F A.small.length G] 83)).alloc (.cells #[.slice none 0 0] 79)) #[.int .i64 0] 33).alloc (.cells #[.int .i64 0] 3);simpa using this
 have aQ:Blk z (w.heap.size+3) #[.int .i64 0] 3:=by rw[u];have:=Blk.new (((w.alloc (.cells #[.string A.name,.slice E A.letters.length lc,.slice F A.small.length G] 83)).alloc (.cells #[.slice none 0 0] 79)).alloc (.cells #[.int .i64 0] 33)) #[.int .i64 0] 3;simpa using this
 have be:cH z z.heap.size (.agg #[.string A.name,.slice E A.letters.length lc,.slice F A.small.length G]) A:=(hA.below j bW).more j.size;clear u;refine(iX A _ _ be).mono ?_;rintro e w1 ⟨rfl,d⟩;have P:=j.trans (d.mono j.size);have bc:w.heap.size+1+1=w.heap.size+2:=rfl;have g:=bP (fun(wr:World) (aq:Below z.heap.size z wr)=>(show Blk wr w.heap.size #[.string A.name,.slice E A.letters.length lc,.slice F A.small.length G] 83/\Blk wr (w.heap.size+1) #[.slice none 0 0] 79/\Blk wr (w.heap.size+2) #[.int .i64 0] 33/\Blk wr (w.heap.size+3) #[.int .i64 0] 3 from
  ⟨aN.below aq (by omega),aO.below aq (by omega),aP.below aq (by omega),aQ.below aq (by omega)⟩))
 clear aN aO aP aQ bc;have m1:=(g.out w1 d).2.1.cell 0;have f1:=(g.out w1 d).2.1.frozen 0;have m2:w1.cell? ⟨w.heap.size+1+1,0,none⟩=_:=(g.out w1 d).2.2.1.cell 0;have f2:w1.frozen? ⟨w.heap.size+1+1,0,none⟩=_:=(g.out w1 d).2.2.1.frozen 0;have m3:w1.cell? ⟨w.heap.size+1+1+1,0,none⟩=_:=(g.out w1 d).2.2.2.cell 0;have f3:w1.frozen? ⟨w.heap.size+1+1+1,0,none⟩=_:=(g.out w1 d).2.2.2.frozen 0;by_cases i:cG A
 .rw[decide_eq_true i];by_cases ht:bl s=[]
  .have e1:=iw ht;have e2:=(gx s).2 ht;have hK:=bP (show dG A s=⟨[],6,0⟩ by rw[dG,if_pos i,cB,if_pos ht]);clear i ht;go_wp2_with fail;obtain⟨q1,q2,q3,q4⟩:=CJ (g.out w1 d).2.1 (g.out w1 d).2.2.1 (g.out w1 d).2.2.2 (.slice none 0 0) (.int .i64 6) (.int .i64 0) P bW;exact xA hK.out rfl rfl rfl rfl q1 q2 q3 q4
  .have e1:=ic ht;have Hv:=bP i;have Ht:=bP ht;have hf:=i.1;have bf:cH w1 w1.heap.size (.agg #[.string A.name,.slice E A.letters.length lc,.slice F A.small.length G]) A:=(hA.below P bW).more P.size;have a0:w1.cell? ⟨w.heap.size,0,none⟩=_:=(g.out w1 d).1.cell 0;have a1:w1.cell? ⟨w.heap.size,1,none⟩=_:=(g.out w1 d).1.cell 1;have a2:w1.cell? ⟨w.heap.size,2,none⟩=_:=(g.out w1 d).1.cell 2;simp only[getElem?_toArray,getElem?_cons_zero,getElem?_cons_succ]at a0 a1 a2;clear i ht m1 f1 m2 f2 m3 f3;go_wp2_with fail;refine(sM A _ _ bf).mono ?_;rintro e m ⟨mv,rfl,aS,bh⟩;obtain⟨b,rfl,bO,hM⟩:=aS hf;rw[decide_eq_true hf];have Hf:=bP hf;have Q:=d.trans (bh.mono d.size);have bF:=j.trans (Q.mono j.size);have HM:=bP hM;clear hf aS hM a0 a1 a2;go_wp2_with fail;refine(yq b s _).mono ?_;rintro e w3 ⟨rfl,bq⟩;go_wp2_with fail;clear bq;obtain⟨W3,C⟩:∃W3:World,W3=((m.alloc (.cells #[.slice none 0 0] 79)).alloc (.cells #[.map (some b)] 135)).alloc (.cells #[.string s] 9):=⟨_,rfl⟩;rw[<-C];have aG:b<m.heap.size:=HM.out.lt;have g0:Boxed W3 m.heap.size 79 (.slice none 0 0):=by rw[C];exact((Boxed.new m _ _).alloc _).alloc _
   have g1:Blk W3 (m.heap.size+1) #[.map (some b)] 135:=by rw[C];have:=(Blk.new (m.alloc (.cells #[.slice none 0 0] 79)) #[.map (some b)] 135).alloc (.cells #[.string s] 9);simpa using this
   have g2:Blk W3 (m.heap.size+1+1) #[.string s] 9:=by rw[C];have:=Blk.new ((m.alloc (.cells #[.slice none 0 0] 79)).alloc (.cells #[.map (some b)] 135)) #[.string s] 9;simpa using this
   have aF:Below m.heap.size m W3:=by rw[C];exact((bX.alloc bW _).alloc (by simp) _).alloc (by simp;omega) _
   have bp:W3.heap.size=m.heap.size+3:=by rw[C];simp
   have bt:w.heap.size+4<=m.heap.size:=by have:=Q.size;omega
   obtain⟨o,ho⟩:∃o,m.heap.size=o:=⟨_,rfl⟩;rw[ho]at g0 g1 g2 aF bp bt aG⊢;clear C;have V:=Hf.out.len;have bk:=Hf.out.nodup;refine(wpIn_wide (n:=5)).1 ?_;refine wpIn_rangeFunc_ownG (α:=Nat×Int) (encs:=fun x=> #[.int .i64 (x.1:Int),.int .i64 x.2]) (Kp:=gX (o+1+1) (o+1) b) (S:=fun O=>O=fE A.bls (s.size+1) (bl s) 0) (Sp:=fun pre=>pre<+:fE A.bls (s.size+1) (bl s) 0) (N:=(fE A.bls (s.size+1) (bl s) 0).length) (w0:=W3)
    rfl (by omega) (gf:=138) (lb:= #[.pointer (some ⟨o+1+1,0,none⟩),.pointer (some ⟨o+1,0,none⟩)]) rfl trivial (enters_of func138 (by kernel_rfl) rfl)
    ?seq (fun h k=>h.trans k) ?kb bX (fun _=>rfl)
    (ES m o b s)
    (ET w)
    ?hI ?hIx ?h0
    (fun x=>{ tmps:= #[.agg #[.string A.name,.slice E A.letters.length lc,.slice F A.small.length G],
     .string s,.pointer (some ⟨w.heap.size,0,none⟩),undef,.pointer (some ⟨w.heap.size+1,0,none⟩),.pointer (some ⟨w.heap.size+1+1,0,none⟩),.pointer (some ⟨w.heap.size+1+1+1,0,none⟩),.map (some b),.bool true,
     .pointer (some ⟨o,0,none⟩),.int .i64 (x.1:Int),.int .i64 x.2,.agg #[.string A.name,.slice E A.letters.length lc,.slice F A.small.length G],.bool true,.bool false,.string s,.bool false,
     .tuple #[.map (some b),.bool true],.agg #[.string A.name,.slice E A.letters.length lc,.slice F A.small.length G],.tuple #[.map (some b),.bool true],.map (some b),.bool true,.map (some b),.string s,
     .func (.func 138) #[] #[.pointer (some ⟨o+1+1,0,none⟩),.pointer (some ⟨o+1,0,none⟩)],.int .i64 (x.1:Int),.int .i64 x.2,undef,undef,undef,undef,undef,undef,undef,undef,undef,undef,undef,undef,undef,undef],defers:=[] }) ?assign ?body ?done ?stop
   case seq=>
    intro l J Jx W hW hJ bN hY h0;exact yp 4 (by omega) l (o+1+1) (o+1) b A bk V s hs J Jx (fun p W n h=>hJ p W (W.drewN n) none h (ym W n) (by simp)) hY W ((g2.below hW (by omega)).cell 0) ((g1.below hW (by omega)).cell 0) ((HM.out.below (aF) aG).below hW (by omega)) h0
   case kb=>
    intro W l ob bY U _ _ _;exact⟨putObj_heap_other (by omega),putObj_heap_other (by omega),putObj_heap_other (by omega)⟩
   case hI=>
    rintro pre X Y row ⟨h1,H,h3,h4,h5,h6⟩ R Z;refine⟨holdsRow_own o o 79 3 1 (fun pre:List (Nat×Int)=>pre.length) (fun pre=>nums (pre.map (·.2))) (fun _ _=>True) pre X Y row (by obtain⟨v,au,aK⟩:=h1;exact⟨v,au,aK,trivial⟩) R (fun r e=>(Z r e).2) |>.imp (fun v i=>⟨i.1,i.2.1⟩),ko H R (fun r e=>(Z r e).2),ko h3 R (fun r e=>(Z r e).2),h4,h5,h6.grown R (by have:=h6.size;omega) (fun k hk=>by have:=(Z k hk).1;omega)⟩
   case hIx=>
    rintro c pre X Y row ⟨hc,aa,x,err,h1,H,h3,h4,h5,h6,h7⟩ R Z;exact⟨hc,aa,x,err,h1,H,h3,ko h4 R (fun r e=>(Z r e).2),ko h5 R (fun r e=>(Z r e).2),ko h6 R (fun r e=>(Z r e).2),h7.grown R h7.size (fun k hk=>by have:=(Z k hk).1;omega)⟩
   case h0=>exact⟨⟨_,g0,ownsRow_nil _ _ _ _⟩,g1,g2,by simp,by simp,aF⟩
   case assign=>
    intro l x W K hK;gi_wp2;exact hK
   case body=>
    rintro l pre x W ⟨⟨v,i,f⟩,h1,H,t,hlen,hB⟩ bT;have ai:=Q.trans (hB.mono (by omega));obtain⟨r1,I,L,M⟩:=g.out W ai;have an:=j.trans (ai.mono j.size);have aR:=i.cell;obtain⟨a,c,rfl,aI,aJ⟩:=b8.ah f;clear aJ aI;by_cases hx:x.2<0
    .obtain⟨x1,x2⟩:=x;have m1:=I.cell 0;have f1:=I.frozen 0;have m2:W.cell? ⟨w.heap.size+1+1,0,none⟩=_:=L.cell 0;have f2:W.frozen? ⟨w.heap.size+1+1,0,none⟩=_:=L.frozen 0;have m3:W.cell? ⟨w.heap.size+1+1+1,0,none⟩=_:=M.cell 0;have f3:W.frozen? ⟨w.heap.size+1+1+1,0,none⟩=_:=M.frozen 0;gi_wp2;obtain⟨q1,q2,q3,q4⟩:=zw I L M (.slice none 0 0) (.int .i64 3) (.int .i64 (x1:Int)) an bW;exact⟨wU _ _ _ _ _ _ _ _,rfl,pre,(x1,x2),3,rfl,t,.inl ⟨hx,rfl,hlen⟩,q1,q2,q3,q4⟩
    .obtain⟨x1,x2⟩:=x;have aU:(0:Int)<=x2:=by simpa using hx
     clear hx;by_cases al:pre.length=24
     .have d24:((pre.length:Int)==24)=true:=by simp[al]
      have aZ:=bP al;have m1:=I.cell 0;have f1:=I.frozen 0;have m2:W.cell? ⟨w.heap.size+1+1,0,none⟩=_:=L.cell 0;have f2:W.frozen? ⟨w.heap.size+1+1,0,none⟩=_:=L.frozen 0;have m3:W.cell? ⟨w.heap.size+1+1+1,0,none⟩=_:=M.cell 0;have f3:W.frozen? ⟨w.heap.size+1+1+1,0,none⟩=_:=M.frozen 0;clear al;gi_wp2;obtain⟨q1,q2,q3,q4⟩:=zw I L M (.slice none 0 0) (.int .i64 2) (.int .i64 (x1:Int)) an bW;exact⟨wU _ _ _ _ _ _ _ _,rfl,pre,(x1,x2),2,rfl,t,.inr ⟨aU,rfl,aZ.out⟩,q1,q2,q3,q4⟩
     .have d24:((pre.length:Int)==24)=false:=by simp;omega
      have bI:pre.length<24:=by omega
      have aT:o<=W.heap.size:=by have:=hB.size;omega
      clear al;gi_wp2_with (gi_at_builtin;refine wpListIn_append_own _ rfl _ _ 79 rfl o 3 i0 (.int .i64 0) 1 8 underlying79 hi bu bw bx rfl (by decide) _ _ _ rfl (f.alloc _) ⟨W.heap.size,0,none⟩ 1 1 [.int .i64 x2] rfl rfl (cell_one_new _ _ _) (by simp[Value.oneCell']) (by unfold maxLen;omega) (by omega) (by simp;omega) ?_;intro v' w1 ar T _;obtain⟨g',ay,rfl⟩:=ownsRow_succ ar;obtain⟨au,aK,bm,bj,aE⟩:=i.appended (by decide) f aT bW ar T;have bQ:=au.cell;have bR:=au.frozen);have aD:=pg h1 f (by decide) T (p:=⟨o,0,none⟩) (by simp) (.slice (some ⟨g',0,none⟩) (pre.length+1) ay);have ao:=pg H f (by decide) T (p:=⟨o,0,none⟩) (by show o+1+1≠o;omega) (.slice (some ⟨g',0,none⟩) (pre.length+1) ay);refine⟨bj.from _,⟨?_,?_,aE.block b aG⟩,⟨_,aK,?_⟩,aD,ao,?_,?_,hB.trans aE⟩
      .exact ao.trans H.symm
      .exact aD.trans h1.symm
      .rw[map_append,qK];simpa [nums]using bm
      .intro y hy;rcases mem_append.1 hy with h |h
       .exact t y h
       .simp at h;subst h;exact aU
      .simp;omega
   case done=>
    rintro D O W hD rfl ⟨⟨v,i,f⟩,h1,H,t,hlen,hB⟩ hK;have ai:=Q.trans (hB.mono (by omega));obtain⟨r1,I,L,M⟩:=g.out W ai;have an:=j.trans (ai.mono j.size);have aR:=i.cell;obtain⟨a,c,rfl,aI,aJ⟩:=b8.ah f;have m1:=I.cell 0;have f1:=I.frozen 0;have m2:W.cell? ⟨w.heap.size+1+1,0,none⟩=_:=L.cell 0;have f2:W.frozen? ⟨w.heap.size+1+1,0,none⟩=_:=L.frozen 0;have m3:W.cell? ⟨w.heap.size+1+1+1,0,none⟩=_:=M.cell 0;have f3:W.frozen? ⟨w.heap.size+1+1+1,0,none⟩=_:=M.frozen 0;gi_wp2;clear aJ aI;have HK:=bP hK;have aV:=bP t;clear hK t;obtain⟨O,aw⟩:∃O,fE A.bls (s.size+1) (bl s) 0=O:=⟨_,rfl⟩;rw[aw]at aR hlen;go_wp2_with fail;have hR:dG A s=⟨O.map (·.2),0,0⟩:=by
     rw[dG,if_pos Hv.out,cB,if_neg Ht.out,sE A.bls (s.size+1) 24 (bl s) 0 [] O (fun l U=>(V l U).1) (by rw[b9];omega) aw (aw▸aV.out) hlen];rfl
    obtain⟨q1,q2,q3,q4⟩:=zw I L M (.slice a O.length c) (.int .i64 0) (.int .i64 0) an bW;have hK:=(wU W ⟨w.heap.size+1,0,none⟩ ⟨w.heap.size+1+1,0,none⟩ ⟨w.heap.size+1+1+1,0,none⟩ (.slice a O.length c) (.int .i64 0) (.int .i64 0) 0).same D _ (zero_le _) HK.out rfl;refine uA hR rfl rfl rfl (by omega) bW hK q1 q2 q3 ?_ q4;rw[aw]at f;have:=cP (Fu f (p:=⟨w.heap.size+1,0,none⟩) (q:=⟨w.heap.size+1+1,0,none⟩) (r:=⟨w.heap.size+1+1+1,0,none⟩) (by show w.heap.size+1<o;omega) (by show w.heap.size+1+1<o;omega) (by show w.heap.size+1+1+1<o;omega) (.slice a O.length c) (.int .i64 0) (.int .i64 0)) (base':=w.heap.size) (by omega);simpa using this
   case stop=>
    rintro D c pre W hD aY ⟨rfl,aa,x,err,h1,H,h3,h4,h5,h6,h7⟩ hK;gi_wp2;have hR:dG A s=⟨[],err,x.1⟩:=by
     rw[dG,if_pos Hv.out,cB,if_neg Ht.out];obtain⟨rest,B⟩:=aY;rw[h1,append_assoc]at B;have aH:∀l∈A.bls,1<=l.length:=fun l U=>(V l U).1;obtain⟨x1,x2⟩:=x;rcases h3 with ⟨hx,rfl,U⟩ |⟨hx,rfl,U⟩
     .have br:x2= -1:=by
       rcases xb A.bls (s.size+1) (bl s) 0 (x1,x2) (by rw[<-B];simp)with h |h
       .simp at hx h;omega
       .exact h
      subst br;exact sD A.bls (s.size+1) 24 (bl s) 0 [] aa rest x1 aH (by rw[b9];omega) B.symm H U
     .exact sF A.bls (s.size+1) 24 (bl s) 0 [] aa rest (x1,x2) aH (by rw[b9];omega) B.symm H hx U
    refine uA hR rfl rfl rfl (by omega) bW hK h4 h5 h6 (ownsRow_nil _ _ _ _) h7
 .rw[decide_eq_false i];have hK:=bP (show dG A s=⟨[],1,0⟩ by rw[dG,if_neg i]);clear i;go_wp2_with fail;obtain⟨q1,q2,q3,q4⟩:=CJ (g.out w1 d).2.1 (g.out w1 d).2.2.1 (g.out w1 d).2.2.2 (.slice none 0 0) (.int .i64 1) (.int .i64 0) P bW;exact xA hK.out rfl rfl rfl rfl q1 q2 q3 q4
end
end Go.Proofs.YtmhdgddjeadjjaaGreatDoor
