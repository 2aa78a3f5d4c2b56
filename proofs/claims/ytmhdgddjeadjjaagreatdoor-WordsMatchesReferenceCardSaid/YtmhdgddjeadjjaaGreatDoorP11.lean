/- A part of the proof: what the claim reaches. -/
import Derived.Test.YtmhdgddjeadjjaaGreatDoorP10
namespace Go.Proofs.YtmhdgddjeadjjaaGreatDoor
open _root_.List Go.Lib _root_.Nat Go.World _root_.Int Go.Proofs.Tryz
section
open Go Classical
def EO (c:Int):List UInt8:=if c=0 then [] else [c.toNat.toUInt8]
inductive CC (l:List Arc)(s:Int):List UInt8->List UInt8->Int->Prop
 |nil:CC l s [] [] s
 |snoc {x y:List UInt8} {a:Arc}:CC l s x y a.frm->a∈l->CC l s (x++EO a.inp) (y++EO a.out) a.to
def Arc.inv (a:Arc):Arc:=⟨a.frm,a.out,a.inp,a.to⟩
structure vl (M N:cu):Prop where
 ag:N.ag=M.ag
 start:N.start=M.start
 final:N.final=M.final
 inc:cR N.arcs
 mem:∀a,a∈N.arcs↔a.inv∈M.arcs
 len:N.arcs.length=M.arcs.length
end
section
open Go.RowKit Classical
open Go.Shelf
attribute [local go_sem] Oper.semAt_some
theorem eN {W W':World}{a:Nat}(h:W'.heap[a]?=W.heap[a]?)(o:Nat):W'.cell? ⟨a,o,none⟩=W.cell? ⟨a,o,none⟩:=by
 simp only[cell?,h]
theorem da {W:World}{a o:Nat}{v:Value}(h:W.cell? ⟨a,o,none⟩=some v):a<W.heap.size:=by
 unfold cell? at h;cases b:W.heap[a]? with
 |none=>simp[b]at h
 |some x=>exact(Array.getElem?_eq_some_iff.1 b).1
structure jj (W:World)(Bm Bs Bi:Nat)(l:List Arc)(s c:Int)(aa:Option Addr)(ac:Nat):Prop where
 m:W.cell? ⟨Bm,3,none⟩=some (.slice aa l.length ac)
 s:W.cell? ⟨Bs,0,none⟩=some (.int .i64 s)
 c:W.cell? ⟨Bi,0,none⟩=some (.int .i64 c)
 row:b8 W W.heap.size aa (flat l)
structure fw (Bm Bs Bi:Nat)(l:List Arc)(aa:Option Addr)(W W':World):Prop where
 m:W'.heap[Bm]?=W.heap[Bm]?
 s:W'.heap[Bs]?=W.heap[Bs]?
 c:W'.heap[Bi]?=W.heap[Bi]?
 row:0<l.length->∀p,aa=some p->W'.heap[p.block]?=W.heap[p.block]?
section
variable {Bm Bs Bi : Nat} {l : List Arc} {aa : Option Addr} {W W' W'' : World} {s c : Int} {ac : Nat}
theorem fw.refl:fw Bm Bs Bi l aa W W:=⟨rfl,rfl,rfl,fun _ _ _=>rfl⟩
theorem fw.trans (h:fw Bm Bs Bi l aa W W')(k:fw Bm Bs Bi l aa W' W''):fw Bm Bs Bi l aa W W'':=
 ⟨k.m.trans h.m,k.s.trans h.s,k.c.trans h.c,fun a p hp=>(k.row a p hp).trans (h.row a p hp)⟩
theorem fw.drewN (h:fw Bm Bs Bi l aa W W')(n:Nat):fw Bm Bs Bi l aa W (W'.drewN n):=⟨h.m,h.s,h.c,h.row⟩
theorem jj.keep (h:jj W Bm Bs Bi l s c aa ac)(k:fw Bm Bs Bi l aa W W'):jj W' Bm Bs Bi l s c aa ac:=
 ⟨(eN k.m 3).trans h.m,(eN k.s 0).trans h.s,(eN k.c 0).trans h.c,fun d=>by
  obtain⟨b,off,e,n,f⟩:=h.row d;have g:0<l.length:=by rw[cT]at d;omega
  have he:=k.row g _ e;have a:∀i x,(flat l)[i]?=some x->W'.cell? ⟨b,off+i,none⟩=some x:=fun i x j=>(eN he (off+i)).trans (f i x j);exact⟨b,off,e,da (a 0 (flat l)[0] (getElem?_eq_getElem d)),a⟩⟩
theorem jj.below (h:jj W Bm Bs Bi l s c aa ac)(a:Below W.heap.size W W'):fw Bm Bs Bi l aa W W':=
 ⟨a.block _ (da h.m),a.block _ (da h.s),a.block _ (da h.c),fun f p hp=>by
  obtain⟨b,off,e,d,_⟩:=h.row (by rw[cT];omega);rw[hp]at e;cases e;exact a.block _ d⟩
end
set_option maxRecDepth 100000
set_option maxHeartbeats 4000000
theorem CF (n:Nat)(hn:1<=n)(y Bm Bs Bi:Nat)(l:List Arc)(s c:Int)(aa:Option Addr)(ac:Nat)(hl:l.length<=20000)(I:∀a∈l,Small a)(G:∀a∈l,0<=a.out)(u:cR l)(hT:Small (tgt s c))
  (J Jx:List Arc->World->Prop)(Kp:World->World->Prop)(B:∀p W W',J p W->Below W.heap.size W W'->J p W')(af:∀W W',Kp W W'->fw Bm Bs Bi l aa W W')
  (hY:∀pre x W,J pre W->pre.length<(c7 l s c).length->x∈c7 l s c->YieldAt Fence.wide (n-1) prog y #[.agg #[.int .i64 x.frm,.int .i64 x.inp,.int .i64 x.out,.int .i64 x.to]] W fun e W'=>
   (e= .returned (.bool true)/\J (pre++[x]) W'/\Kp W W')\/(e= .returned (.bool false)/\Jx (pre++[x]) W'))
  (W:World)(z:jj W Bm Bs Bi l s c aa ac)(h0:J [] W):
  CallsIn Fence.wide n prog 209 #[.func (.yield y) #[] #[],.pointer (some ⟨Bm,0,none⟩),.pointer (some ⟨Bs,0,none⟩),.pointer (some ⟨Bi,0,none⟩)] W fun e W'=>(∃v,e= .returned v)/\
   ((∃ys,ys=c7 l s c/\J ys W')\/(∃pre,pre<+:c7 l s c/\Jx pre W')):=by
 refine callsIn_of_wp func209 rfl trivial ?_ rfl;simp only[ntmps209,size_toArray,length_cons,length_nil,Nat.reduceAdd,Nat.reduceSub,Array.replicate_succ,Array.replicate_zero,push_toArray,append_toArray,nil_append,cons_append];obtain⟨o,C⟩:∃o,c7 l s c=o:=⟨_,rfl⟩;have Y:=bP C;rw[C]at hY⊢;clear C;have T:=bP z;have HQ:=bP (DU l (tgt s c) aa ac hl I hT u W z.row);have q:=bS u I G;have H0:=bP h0;have m3:=z.m;have s0:=z.s;have c0:=z.c;clear z u I G h0;refine wpIn_wide.2 ?_;go_wp2_with (go_at_call 210;refine HQ.out.mono ?_;rintro e w1 ⟨S,f,rfl,ak,Q,O,D⟩);have P:=T.out.below D;have M:=B _ _ _ H0.out D;have X:=bQ Q O;have V:=bP P;have U:=bP M;clear Q O P M D m3 s0 c0;refine(wpIn_wide (n:=n)).1 ?_;gi_loopw [5] (fun i wr=>∃(k:Nat) (pre:List Arc),i= .int .i64 k/\S<=k/\k<=l.length/\o=pre++c7 (l.drop k) s c/\J pre wr/\fw Bm Bs Bi l aa W wr) (fun i _=>l.length-(intOf i).toNat);case atStart=>exact⟨S,[],rfl,bW,ak,by rw[<-Y.out];exact Cb S (fun t ht a=>X.out.1 t a ht) q.out.2.2,U.out,V.out⟩
 case round=>
  obtain⟨k,pre,rfl,aj,aA,H,N,F⟩:=hrel;have r:=bP H;have w:=bP N;have j:=T.out.keep F;have m3:=j.m;have s0:=j.s;have c0:=j.c;have Z:=bP F;clear H N F;by_cases hk:k<l.length
  .obtain⟨b,off,rfl,hb,hc⟩:=j.row.arcs (by omega);obtain⟨x0,x1,x2,x3⟩:=hc k hk;obtain⟨x,L⟩:∃x,x=l[k]:=⟨_,rfl⟩;rw[<-L]at x0 x1 x2 x3;have A:=bP (show l[k]?=some x by rw[L];exact getElem?_eq_getElem hk);clear L hc j;have hd:decide ((k:Int)<(l.length:Int))=true:=bZ;have az:decide (k<l.length)=true:=decide_eq_true hk;by_cases hm:x.frm=s/\x.inp=c
   .have g:o=pre++x::c7 (l.drop (k+1)) s c:=by rw[r.out,Cc k x A.out hm]
    have d1:(x.frm==s)=true:=by simpa using hm.1
    have d2:(x.inp==c)=true:=by simpa using hm.2
    have d:=bP g;clear hm g;gi_wp2;refine wpIn_wide.2 ?_;go_quiet (fail);obtain⟨fn,tmps,assign,body,hy,hR⟩:=hY pre x (wr.drewN nq) (B _ _ _ w.out (Go.below_drewN bX _)) (by rw[d.out];simp) (by rw[d.out];simp);gi_wp2;refine hR.mono ?_;rintro e W3 (⟨rfl,ae,ai⟩ |⟨rfl,R⟩)
    .gi_wp2;exact⟨⟨k+1,pre++[x],by go_num,by omega,by omega,by rw[d.out];simp,ae,(Z.out.drewN nq).trans (af _ _ ai)⟩,by simp[intOf];omega⟩
    .gi_wp2;refine bodyPost_ret (results_none rfl _ _ _) rfl ?_;exact⟨⟨_,rfl⟩,.inr ⟨_,by rw[d.out];exact⟨c7 (l.drop (k+1)) s c,by simp⟩,R⟩⟩
   .have g:o=pre:=by rw[r.out,Cd q.out.1 k x A.out (X.out.2 k x aj A.out) q.out.2.2 hm,append_nil]
    have d:=bP g;clear g;by_cases E:x.frm=s
    .have d1:(x.frm==s)=true:=by simpa using E
     have d2:(x.inp==c)=false:=by rw[beq_eq_false_iff_ne];exact fun e=>hm ⟨E,e⟩
     clear hm E;gi_wp2;refine wpIn_wide.2 ?_;go_quiet (fail);gi_wp2;go_end0;exact⟨⟨_,rfl⟩,.inl ⟨o,rfl,by rw[d.out];exact B _ _ _ w.out (Go.below_drewN bX _)⟩⟩
    .have d1:(x.frm==s)=false:=by rw[beq_eq_false_iff_ne];exact E
     clear hm E;gi_wp2;refine wpIn_wide.2 ?_;go_quiet (fail);gi_wp2;go_end0;exact⟨⟨_,rfl⟩,.inl ⟨o,rfl,by rw[d.out];exact B _ _ _ w.out (Go.below_drewN bX _)⟩⟩
  .obtain rfl:k=l.length:=by omega
   have hd:decide ((l.length:Int)<(l.length:Int))=false:=bY;have g:o=pre:=by rw[r.out,drop_of_length_le bW,xD,append_nil]
   have d:=bP g;clear g j;gi_wp2;refine wpIn_wide.2 ?_;go_quiet (fail);gi_wp2;go_end0;exact⟨⟨_,rfl⟩,.inl ⟨o,rfl,by rw[d.out];exact B _ _ _ w.out (Go.below_drewN bX _)⟩⟩
theorem rp (n:Nat)(E:1<=n)(Bm Bs Bi:Nat)(l:List Arc)(s c:Int)(aa:Option Addr)(ac:Nat)(D:l.length<=20000)(k:∀a∈l,Small a)(f:∀a∈l,0<=a.out)(d:cR l)(z:Small (tgt s c))
  (W:World)(j:jj W Bm Bs Bi l s c aa ac):
  SeqStopsK Fence.wide n prog 209 #[.pointer (some ⟨Bm,0,none⟩),.pointer (some ⟨Bs,0,none⟩),.pointer (some ⟨Bi,0,none⟩)] (fun x:{x//x∈c7 l s c}=> #[.agg #[.int .i64 x.1.frm,.int .i64 x.1.inp,.int .i64 x.1.out,.int .i64 x.1.to]])
   (fw Bm Bs Bi l aa) (fun o=>o.map (·.1)=c7 l s c) (fun _=>True) (c7 l s c).length W:=by
 intro y J r t A v G B u;refine(CF n E y Bm Bs Bi l s c aa ac D k f d z (fun p W=>∃q:List {x//x∈c7 l s c},q.map (·.1)=p/\J q W) (fun p W=>∃q:List {x//x∈c7 l s c},q.map (·.1)=p/\r q W) (fw Bm Bs Bi l aa)
  (fun p X Y h C=>?_) (fun _ _ h=>h) ?_ t (j.keep (j.below A)) ⟨[],rfl,u⟩).mono ?_
 .obtain⟨q,g,h⟩:=h;exact⟨q,g,v q X Y none h (gO C none) (by simp)⟩
 .rintro pre x X ⟨q,rfl,h⟩ hlen i;obtain⟨fn,tmps,assign,body,F,w⟩:=B q ⟨x,i⟩ X h (by simpa using hlen);refine⟨fn,tmps,assign,body,F,w.mono ?_⟩;rintro e H (⟨he,b,hk⟩ |⟨he,b⟩)
  .exact .inl ⟨he,⟨q++[⟨x,i⟩],by simp,b⟩,hk⟩
  .exact .inr ⟨he,⟨q++[⟨x,i⟩],by simp,b⟩⟩
 .rintro e X ⟨m,(⟨o,rfl,q,g,b⟩ |⟨pre,_,q,rfl,b⟩)⟩
  .exact⟨m,.inl ⟨q,g,b⟩⟩
  .exact⟨m,.inr ⟨q,trivial,b⟩⟩
theorem rk (s c:Int)(st start:Int)(f1 f2:Value)(w:World):
  Calls prog 163 #[.agg #[.int .i64 st,.int .i64 start,f1,f2],.int .i64 s,.int .i64 c] w fun e w'=>
   e= .returned (.func (.func 209) #[] #[.pointer (some ⟨w.heap.size,0,none⟩),.pointer (some ⟨w.heap.size+1,0,none⟩),.pointer (some ⟨w.heap.size+2,0,none⟩)])/\
   w'=((w.alloc (.cells #[.int .i64 st,.int .i64 start,f1,f2] 98)).alloc (.cells #[.int .i64 s] 3)).alloc (.cells #[.int .i64 c] 3):=by
 go_enter func163,ntmps163;go_wp2;go_ret;exact⟨rfl,rfl⟩
end
end Go.Proofs.YtmhdgddjeadjjaaGreatDoor
