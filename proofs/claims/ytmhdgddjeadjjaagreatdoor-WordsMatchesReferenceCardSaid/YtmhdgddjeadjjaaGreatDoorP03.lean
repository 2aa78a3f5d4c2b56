/- A part of the proof: what the claim reaches. -/
import Derived.Test.YtmhdgddjeadjjaaGreatDoorP01
import Derived.Deep.RegionHeld
import Derived.Test.YtmhdgddjeadjjaaGreatDoorShelf
namespace Go.Proofs.YtmhdgddjeadjjaaGreatDoor
open _root_.List Go.Lib _root_.Nat Go.World _root_.Int Go.Proofs.Tryz
variable {af:Array Edge}{b:ByteArray}{o:Op}{g:Option (Nat × Bool)}{d:Option Tmp}{ps:String}{t:TypeId}
section
open Go.RowKit Go.Sort Classical
def gi (a b:ByteArray):Int:=if Op.bytesLess a.toList b.toList=true then -1 else if (a.toList==b.toList)=true then 0 else 1
theorem nR {a:ByteArray}:Op.bytesLess a.toList b.toList=true↔bl a<bl b:=by
 rw[bytesLess_eq,decide_eq_true_eq,ByteArray.toList_eq,ByteArray.toList_eq];rfl
theorem j9 {a:ByteArray}:gi a b<0↔bl a<bl b:=by
 unfold gi;by_cases h:Op.bytesLess a.toList b.toList=true
 .rw[if_pos h];exact⟨fun _=>nR.1 h,fun _=>by omega⟩
 .rw[if_neg h];refine⟨fun e=>?_,fun e=>absurd (nR.2 e) h⟩;split at e<;>omega
theorem tt {a:ByteArray}:gi a b=0↔a=b:=by
 unfold gi;split
 .rename_i h;have h:=nR.1 h;refine⟨fun e=>by simp at e,fun e=>?_⟩;subst e;exact absurd h (List.lt_irrefl _)
 .split
  .rename_i h;rw[beq_iff_eq,ByteArray.toList_eq,ByteArray.toList_eq]at h;exact⟨fun _=>cY h,fun _=>rfl⟩
  .rename_i h;refine⟨fun e=>by simp at e,fun e=>?_⟩;subst e;simp at h
theorem zW (s:ByteArray)(w:World):Calls prog 125 #[.string s] w fun e w'=>e= .returned (.bool false)/\w'=w:=by
 go_enter func125,ntmps125;go_wp2;go_ret;exact⟨by simp,rfl⟩
set_option maxRecDepth 100000
set_option maxHeartbeats 1000000
theorem vU (a b:ByteArray)(w:World):Calls prog 73 #[.string a,.string b] w fun e w'=>e= .returned (.int .i64 (gi a b))/\w'=w:=by
 go_enter func73,ntmps73;have c:=fun s w=>zW s w;go_wp2_with fail;refine(c _ _).mono ?_;rintro e w' ⟨rfl,hw⟩;subst hw;go_wp2_with fail;refine(c _ _).mono ?_;rintro e w' ⟨rfl,hw⟩;subst hw;go_wp2_with fail;all_goals go_ret
 all_goals refine⟨?_,rfl⟩
 all_goals unfold gi
 all_goals simp_all
end
section
open Go
section
variable {P : Program} {ops : Array Oper} {Q : Exit → Act → World → Prop} {md : Region.Mode} {S : World → Prop} {fuel : Nat} {listed : Array Bool} {a : Act} {w : World}
def TK (_:List Nat)(p:Prop):Prop:=p
theorem tk (l:List Nat){p:Prop}(h:TK l p):p:=h
theorem tkn {p:Prop}(h:p):TK [] p:=h
theorem tkt {i:Nat}{is:List Nat}{v:Value}
  (m:∀w,S w->(execOp a.eval ⟨d,o,t,ps,af,g⟩).run P w= .ok (.value v) w)
  (h:TK is (wpAnyH P md ops Q S fuel (listed.setIfInBounds i true) (a.put d v) w))
  (j:ops[i]?=some ⟨d,o,t,ps,af,g⟩:=by exact rfl)
  (l:Region.noSelect ops=true:=by kernel_rfl)(f:Region.free md ops listed i=true:=by kernel_rfl)(k:(Region.ready md ops listed).contains i=true:=by kernel_rfl)
  (b:∀c a w,Q (.panic c) (a.put d v) w->Q (.panic c) a w:=by exact fun _ _ _ h=>h)
  (hw:Region.wanted ⟨d,o,t,ps,af,g⟩ (yielded ops a.tmps)=true:=by kernel_rfl)(e:S w:=by assumption):
  TK (i::is) (wpAnyH P md ops Q S (fuel+1) listed a w):=wpAnyH_take j l f k b (.inl ⟨hw,m⟩) e h
theorem tkl {i:Nat}{is:List Nat}
  (h:TK is (wpAnyH P md ops Q S fuel (listed.setIfInBounds i true) (a.put d undef) w))
  (j:ops[i]?=some ⟨d,o,t,ps,af,g⟩:=by exact rfl)
  (l:Region.noSelect ops=true:=by kernel_rfl)(f:Region.free md ops listed i=true:=by kernel_rfl)(k:(Region.ready md ops listed).contains i=true:=by kernel_rfl)
  (b:∀c a w,Q (.panic c) (a.put d undef) w->Q (.panic c) a w:=by exact fun _ _ _ h=>h)
  (hw:Region.wanted ⟨d,o,t,ps,af,g⟩ (yielded ops a.tmps)=false:=by kernel_rfl)(e:S w:=by assumption):
  TK (i::is) (wpAnyH P md ops Q S (fuel+1) listed a w):=wpAnyH_take j l f k b (.inr ⟨hw,rfl⟩) e h
theorem rd1 (i:Nat)
  (h:∀b:Act->World->Prop,Shut (∀a w,S w->(S w->wpAnyH P md ops Q S fuel (listed.setIfInBounds i true) a w)->b a w)->if Region.wanted ⟨d,o,t,ps,af,g⟩ (yielded ops a.tmps)=true then Oper.wp P ⟨d,o,t,ps,af,g⟩ a w b Q else b (a.put d undef) w)
  (c:ops[i]?=some ⟨d,o,t,ps,af,g⟩:=by exact rfl)(e:Region.ready md ops listed=[i]:=by kernel_rfl):
  wpAnyH P md ops Q S (fuel+1) listed a w:=wpAnyH_ready e (by simp) (.cons c h .nil)
theorem rd2 (i j:Nat){f:Option Tmp}{k:Op}{l:TypeId}{e:String}{c:Array Edge}{g':Option (Nat×Bool)}
  (h:∀b:Act->World->Prop,Shut (∀a w,S w->(S w->wpAnyH P md ops Q S fuel (listed.setIfInBounds i true) a w)->b a w)->if Region.wanted ⟨d,o,t,ps,af,g⟩ (yielded ops a.tmps)=true then Oper.wp P ⟨d,o,t,ps,af,g⟩ a w b Q else b (a.put d undef) w)
  (m:∀b:Act->World->Prop,Shut (∀a w,S w->(S w->wpAnyH P md ops Q S fuel (listed.setIfInBounds j true) a w)->b a w)->if Region.wanted ⟨f,k,l,e,c,g'⟩ (yielded ops a.tmps)=true then Oper.wp P ⟨f,k,l,e,c,g'⟩ a w b Q else b (a.put f undef) w)
  (n:ops[i]?=some ⟨d,o,t,ps,af,g⟩:=by exact rfl)(p:ops[j]?=some ⟨f,k,l,e,c,g'⟩:=by exact rfl)(q:Region.ready md ops listed=[i,j]:=by kernel_rfl):
  wpAnyH P md ops Q S (fuel+1) listed a w:=wpAnyH_ready q (by simp) (.cons n h (.cons p m .nil))
end
theorem pS:(∀(a:Act) (d:Tmp) (v:Value),a.put (some d) v={ a with tmps:=a.tmps.setIfInBounds d v })/\(∀(a:Act) (v:Value),a.put none v=a)/\
  (∀(l:List Bool) (i:Nat) (b:Bool),l.toArray.setIfInBounds i b=(l.set i b).toArray)/\(∀(l:List Value) (i:Nat) (b:Value),l.toArray.setIfInBounds i b=(l.set i b).toArray)/\
  (∀(x:Bool) (l:List Bool) (b:Bool),(x::l).set 0 b=b::l)/\(∀(x:Bool) (l:List Bool) (n:Nat) (b:Bool),(x::l).set (n+1) b=x::l.set n b)/\
  (∀(x:Value) (l:List Value) (b:Value),(x::l).set 0 b=b::l)/\(∀(x:Value) (l:List Value) (n:Nat) (b:Value),(x::l).set (n+1) b=x::l.set n b):=
 ⟨fun _ _ _=>rfl,fun _ _=>rfl,fun _ _ _=>by simp,fun _ _ _=>by simp,fun _ _ _=>rfl,fun _ _ _ _=>rfl,fun _ _ _=>rfl,fun _ _ _ _=>rfl⟩
end
section
open Go.RowKit
def vF {α:Type}(F:Fence)(n:Nat)(P:Program)(g:Nat)(lb:Array Value)(encs:α->Array Value)(Kp Tn:World->World->Prop)(S Sp:List α->Prop)(G:List α->α->Prop)(w:World):Prop:=
 ∀(l:Nat) (J a:List α->World->Prop) (W:World),Below w.heap.size w W->AbidesFrom W.heap.size J->AbidesFrom W.heap.size a->
  (∀s X Y,J s X->Tn X Y->J s Y)->(∀s X Y,a s X->Tn X Y->a s Y)->
  (∀pre x b,J pre b->G pre x->YieldAt F (n-1) P l (encs x) b fun e W'=>
   (e= .returned (.bool true)/\J (pre++[x]) W'/\Kp b W')\/(e= .returned (.bool false)/\a (pre++[x]) W'))->
  J [] W->
  CallsIn F n P g (#[.func (.yield l) #[] #[]]++lb) W fun e W'=>(∃v,e= .returned v)/\((∃xs,S xs/\J xs W')\/(∃pre,Sp pre/\a pre W'))
def Dy {α:Type}(B:Nat)(Kp:World->World->Prop)(I:List α->World->Prop)(a:Code->List α->World->Prop)(xs:List α)(W:World)(e:Exit)(W':World):Prop:=
 KeepsFrom B W W'/\((e= .normal/\Kp W W'/\I xs W')\/(e= .ret/\a .ret xs W'))
theorem mB {F:Fence}{n:Nat}{P:Program}{α:Type}{g:Operand}{ps:Array Tmp}{assign body:Code}{Q:Exit->Act->World->Prop}{a:Act}{w:World}
  (aC:F.round=none)(h1:1<=n){gf:Nat}{lb:Array Value}(d:a.eval g= .func (.func gf) #[] lb)(ao:F.fn gf)(eg:∀args w,(callFunc gf args).run P w= .ok (.enter gf args) w)
  {encs:α->Array Value}{Kp Tn:World->World->Prop}{S Sp:List α->Prop}{G:List α->α->Prop}{w0:World}(aj:vF F (n-1) P gf lb encs Kp Tn S Sp G w0)
  (ae:∀{A B C:World},Kp A B->Kp B C->Kp A C)(ad:∀(W:World) (l:Nat) (o o':Obj),w.heap.size<=l->W.heap[l]?=some o->o.isCells=false->Kp W (W.putObj l o'))(af:Below w0.heap.size w0 w)(aB:∀x,(encs x).size=ps.size)
  (y:∀(X Y:World) (l:Nat) (o:Obj),Tn X Y->w.heap.size<=l->X.heap[l]?=some o->o.isCells=false->Y.heap[l]?=some o)
  (I:List α->World->Prop)(z:Code->List α->World->Prop)(E:OwnFrom w.heap.size I)(M:∀c,OwnFrom w.heap.size (z c))(hT:∀s X Y,I s X->Tn X Y->I s Y)(ar:∀c s X Y,z c s X->Tn X Y->z c s Y)(h0:I [] w)
  (a₁:α->Act)
  (L:∀(l:Nat) (x:α) (W:World) (K:Act->World->Prop),K (a₁ x) W->
   assign.wpIn (F.inRound l) (n-1-1) P (Exit.then K (fun _ _ _=>False)) { tmps:=(ps.zip (encs x)).foldl (fun t (p,v)=>t.setIfInBounds p v) a.tmps,defers:=[] } W)
  (Z:∀(l:Nat) (pre:List α) (x:α) (W:World),I pre W->G pre x->body.wpIn (F.inRound l) (n-1-1) P (fun e _ W'=>Dy w.heap.size Kp I z (pre++[x]) W e W') (a₁ x) W)
  (aa:∀(D:Nat) (xs:List α) (W:World),w.heap.size<=D->S xs->I xs W->W.heap[D]?=some (.deferred (some []))->Q .normal { a with defers:={ target:= .collected D,args:= #[] }::a.defers } W)
  (ab:∀(D:Nat) (pre:List α) (W:World),w.heap.size<=D->Sp pre->z .ret pre W->W.heap[D]?=some (.deferred (some []))->Code.ret.wpIn F n P Q { a with defers:={ target:= .collected D,args:= #[] }::a.defers } W):
  (Code.rangeFunc g ps assign body).wpIn F n P Q a w:=by
 refine wpIn_rangeFunc fun fn ax=>?_;rw[aC];let R:LoopState->Option Code->Loop:=fun st pe=>{ state:=st,pending:=pe,fn,tmps:=a.tmps,params:=ps,assign,body,defers:=w.heap.size };obtain⟨B,V⟩:∃B,B=w.heap.size:=⟨_,rfl⟩;obtain⟨b,m⟩:∃b,b=(w.alloc (.deferred (some []))).alloc (.loop (R .ready none)):=⟨_,rfl⟩;have rL:b.heap[B+ 1]?=some (.loop (R .ready none)):=by
  have h:=alloc_heap_new (w.alloc (.deferred (some []))) (.loop (R .ready none));rw[size_alloc,<-V]at h;rw[m];exact h
 have rD:b.heap[B]?=some (.deferred (some [])):=by
  rw[m,V];exact(Below.heap_alloc _ _ _ (by simp)).trans (alloc_heap_new w _)
 have iI:I [] b:=by rw[m];exact E.alloc _ (E.alloc _ h0)
 have aS:b.heap.size=B+2:=by rw[m,V];simp
 have an:Below w0.heap.size w0 b:=by
  rw[m];exact af.trans ((((Below.refl _ w).alloc bW _).alloc (by simp) _).mono af.size)
 refine⟨B+1,[{ target:= .collected B,args:= #[] }],b,{ target:= .fn (.func gf) lb,args:= #[.func (.yield (B+1)) #[] #[]] },b,gf,#[.func (.yield (B+1)) #[] #[]]++lb,b,?_,?_,?_,?_,fun _=>h1,?_⟩
 .rw[m,V];exact run_enterLoop_outer _ _ _ _ _
 .simp only[resolve,d];simp[go_sem]
 .intro f hf;simp[Target.leads]at hf;rw[<-hf];exact ao
 .simp[invoke,go_sem,eg]
 let J:List α->World->Prop:=fun pre W=>I pre W/\W.heap[B+ 1]?=some (.loop (R .ready none))/\W.heap[B]?=some (.deferred (some []));let Jx:List α->World->Prop:=fun pre W=>z .ret pre W/\W.heap[B+ 1]?=some (.loop (R .done (some .ret)))/\W.heap[B]?=some (.deferred (some []));have stays:∀{X Y:World} {row:Option Nat} {k:Nat} {o:Obj},X.grownBy Y row->(∀r,row=some r->b.heap.size<=r/\∃o:Obj,X.heap[r]?=some o/\o.isWalk=true)->k<b.heap.size->X.heap[k]?=some o->Y.heap[k]?=some o:=fun d j hk ho=>
  (d.block _ (Array.getElem?_eq_some_iff.1 ho).1 (fun e=>by have:=(j _ e.symm).1;omega)).trans ho
 have own:∀{X:World} {row:Option Nat},(∀r,row=some r->b.heap.size<=r/\∃o:Obj,X.heap[r]?=some o/\o.isWalk=true)->∀r,row=some r->w.heap.size<=r/\∃o:Obj,X.heap[r]?=some o/\o.isCells=false:=fun j r e=>by
  obtain⟨h2,o,h3,h4⟩:=j r e;exact⟨by omega,o,h3,Obj.not_cells_of_walk h4⟩
 have hJ:AbidesFrom b.heap.size J:=fun pre X Y row u d j=>⟨E pre X Y row u.1 d (own j),stays d j (by omega) u.2.1,stays d j (by omega) u.2.2⟩;have aq:AbidesFrom b.heap.size Jx:=fun pre X Y row u d j=>⟨M .ret pre X Y row u.1 d (own j),stays d j (by omega) u.2.1,stays d j (by omega) u.2.2⟩;refine(aj (B+1) J Jx b an hJ aq (fun s X Y h t=>⟨hT s X Y h.1 t,y X Y _ _ t (by omega) h.2.1 rfl,y X Y _ _ t (by omega) h.2.2 rfl⟩) (fun s X Y h t=>⟨ar .ret s X Y h.1 t,y X Y _ _ t (by omega) h.2.1 rfl,y X Y _ _ t (by omega) h.2.2 rfl⟩) ?_ ⟨iI,rL,rD⟩).mono ?_
 .rintro pre x W ⟨O,i,N⟩ hlen;refine⟨fn,_,assign,body,run_yield (P:=P) (args:=encs x) i (aB x),roundIn_of_wpIn ax (L _ x W _ ?_)⟩;have az:=(Array.getElem?_eq_some_iff.1 i).1;refine⟨_,run_beginRound i rfl,?_⟩;obtain⟨X,H⟩:∃X,X=W.putObj (B+1) (.loop (R .busy none)):=⟨_,rfl⟩;have xl:X.heap[B+ 1]?=some (.loop (R .busy none)):=by rw[H];exact putObj_heap_same az
  have xd:X.heap[B]?=some (.deferred (some [])):=by rw[H];exact(putObj_heap_other (by omega)).trans N
  have xi:I pre X:=by rw[H];exact E.putObj _ O (by omega) i rfl
  have xk:Kp W X:=by rw[H];exact ad _ _ _ _ (by omega) i rfl
  have hb:=Z (B+1) pre x X xi hlen;rw[H]at hb;refine wpIn_mono hb ?_;rw[<-H];rintro e a3 W3 ⟨ah,h⟩;have q:=ah.same _ _ (by omega) xl rfl;have ag:=ah.same _ _ (by omega) xd rfl;have U:=(Array.getElem?_eq_some_iff.1 q).1;rcases h with ⟨rfl,ay,T⟩ |⟨rfl,T⟩
  .exact⟨_,_,run_endRound (P:=P) none q,.inl ⟨rfl,⟨E.putObj _ T (by omega) q rfl,putObj_heap_same U,(putObj_heap_other (by omega)).trans ag⟩,ae (ae xk ay) (ad _ _ _ _ (by omega) q rfl)⟩⟩
  .exact⟨_,_,run_endRound (P:=P) (some .ret) q,.inr ⟨rfl,(M .ret).putObj _ T (by omega) q rfl,putObj_heap_same U,(putObj_heap_other (by omega)).trans ag⟩⟩
 .rintro e W2 ⟨⟨v,rfl⟩,⟨xs,hS,O,i,N⟩ |⟨pre,hS,O,i,N⟩⟩
  .exact⟨none,_,run_endLoop (P:=P) i (by simp[R]),aa B xs _ (by omega) hS (E.putObj _ O (by omega) i rfl) ((putObj_heap_other (by omega)).trans N)⟩
  .exact⟨some .ret,_,run_endLoop (P:=P) i (by simp[R]),ab B pre _ (by omega) hS ((M .ret).putObj _ O (by omega) i rfl) ((putObj_heap_other (by omega)).trans N)⟩
end
section
open Go.RowKit Classical
theorem b8.a6 {w:World}{B:Nat}{a:Option Addr}{xs:List Value}(h:b8 w B a xs){p:Addr}(c:∀b o,a=some ⟨b,o,none⟩->b≠p.block)(u:Value):b8 (w.setCell p u) B a xs:=fun k=>by
 obtain⟨b,off,e,f,g⟩:=h k;exact⟨b,off,e,f,fun i x j=>(cell?_setCell_other w p ⟨b,off+i,none⟩ u (fun d=>c b off e (by rw[d]))).trans (g i x j)⟩
end
end Go.Proofs.YtmhdgddjeadjjaaGreatDoor
