/- A part of the proof: what the claim reaches. -/
import Derived.Test.YtmhdgddjeadjjaaGreatDoorP02
import Derived.Test.YtmhdgddjeadjjaaGreatDoorP03
namespace Go.Proofs.YtmhdgddjeadjjaaGreatDoor
open _root_.List Go.Lib _root_.Nat Go.World _root_.Int Go.Proofs.Tryz
variable {t w:ByteArray}{f:ByteArray → List (ByteArray × Int)}{c:Int}{a:List (ByteArray × Int)}{K':List (List ByteArray × Int)}{k:Nat}{α:Type}{e:TypeId}
section
open Go Classical
def py (r:Nat):Bool:=decide (r<33)||decide (126<r)
def kg (c:UInt8):Bool:=decide (33<=c.toNat)&&decide (c.toNat<=126)
def rA (l:List UInt8):Bool:=l.all kg
def eY (s:ByteArray)(b:Nat):Prop:=rA (bl s)=true/\1<=s.size/\s.size<=b
structure Sht where
 lang:ByteArray
 short:ByteArray
 full:ByteArray
 cost:Int
noncomputable def oq (l:List (ByteArray×Int))(t:ByteArray)(c:Int):List (ByteArray×Int):=
 if t∈l.map (·.1) then l.map (fun p=>if p.1=t then (p.1,min p.2 c) else p) else l++[(t,c)]
noncomputable def chs (l:List Sht)(w:ByteArray):List (ByteArray×Int):=l.foldl (fun a s=>if s.short=w then oq a s.full s.cost else a) [(w,0)]
def ji (l:List Sht)(w t:ByteArray)(c:Int):Prop:=(t=w/\c=0)\/∃s∈l,s.short=w/\s.full=t/\s.cost=c
def fJ (S:Int->Prop)(c:Int):Prop:=S c/\∀d,S d->c<=d
theorem fJ.uniq {S:Int->Prop}{d:Int}(h:fJ S c)(k:fJ S d):c=d:=by
 have:=h.2 d k.1;have:=k.2 c h.1;omega
theorem Dm {l:List (ByteArray×Int)}:(oq l t c).map (·.1)=if t∈l.map (·.1) then l.map (·.1) else l.map (·.1)++[t]:=by
 unfold oq;split
 .rw[map_map];refine map_congr_left (fun p _=>?_);simp only[Function.comp_apply];split<;>rfl
 .simp
theorem Ae {l:List (ByteArray×Int)}(h:(l.map (·.1)).Nodup):((oq l t c).map (·.1)).Nodup:=by
 rw[Dm];split
 .exact h
 .rename_i g;refine nodup_append.2 ⟨h,by simp,fun a d b f e=>?_⟩;obtain rfl:=mem_singleton.1 f;exact g (e▸d)
structure ChI (S:ByteArray->Int->Prop)(a:List (ByteArray×Int)):Prop where
 nodup:(a.map (·.1)).Nodup
 mem:∀t c,(t,c)∈a↔fJ (S t) c
theorem ChI.put {S:ByteArray->Int->Prop}(h:ChI S a)(hex:∀t d,S t d->∃c,fJ (S t) c)(t:ByteArray)(c:Int):ChI (fun u d=>S u d\/(u=t/\d=c)) (oq a t c):=by
 refine⟨Ae h.nodup,fun u d=>?_⟩;unfold oq;by_cases k:t∈a.map (·.1)
 .rw[if_pos k];obtain⟨⟨s,c0⟩,hm,e⟩:=mem_map.1 k;simp only at e;subst e;have m:=(h.mem s c0).1 hm;rw[mem_map];constructor
  .rintro⟨⟨w,r⟩,hp,e⟩;have f:=(h.mem w r).1 hp;split at e
   .rename_i i;simp only at i;subst i;simp only[Prod.mk.injEq]at e;obtain⟨rfl,rfl⟩:=e;have v:=f.uniq m;subst v;refine⟨?_,?_⟩
    .rcases Int.le_total r c with h1 |h1
     .rw[Int.min_eq_left h1];exact .inl f.1
     .rw[Int.min_eq_right h1];exact .inr ⟨rfl,rfl⟩
    .rintro d (h1 |⟨_,rfl⟩)
     .have:=f.2 d h1;omega
     .omega
   .rename_i i;simp only at i;obtain⟨rfl,rfl⟩:=Prod.mk.inj e;exact⟨.inl f.1,fun d n=>n.elim (f.2 d) (fun q=>absurd q.1 i)⟩
  .rintro⟨h1,j⟩;by_cases e:u=s
   .subst e;refine⟨(u,c0),hm,?_⟩;simp only[if_pos,Prod.mk.injEq,true_and];have x:=j c0 (.inl m.1);have y:=j c (.inr ⟨rfl,rfl⟩);rcases h1 with h1 |⟨_,h1⟩
    .have:=m.2 d h1;omega
    .omega
   .refine⟨(u,d),(h.mem u d).2 ⟨h1.resolve_right (fun q=>e q.1),fun g b=>j g (.inl b)⟩,?_⟩;rw[if_neg e]
 .rw[if_neg k,mem_append,mem_singleton,h.mem];have l:∀d,¬S t d:=fun d n=>by
   obtain⟨o,p⟩:=hex t d n;exact k (mem_map.2 ⟨(t,o),(h.mem t o).2 p,rfl⟩)
  constructor
  .rintro(h1 |h1)
   .exact⟨.inl h1.1,fun g b=>b.elim (h1.2 g) (fun q=>absurd (q.1▸h1.1) (l d))⟩
   .obtain⟨rfl,rfl⟩:=Prod.mk.inj h1;exact⟨.inr ⟨rfl,rfl⟩,fun g b=>b.elim (fun q=>absurd q (l g)) (fun q=>by rw[q.2];exact Int.le_refl _)⟩
  .rintro⟨h1 |⟨rfl,rfl⟩,j⟩
   .exact .inl ⟨h1,fun g b=>j g (.inl b)⟩
   .exact .inr rfl
theorem ChI.ex {S:ByteArray->Int->Prop}(hex:∀t d,S t d->∃c,fJ (S t) c)(t:ByteArray)(c:Int):∀u d,(S u d\/(u=t/\d=c))->∃e,fJ (fun d=>S u d\/(u=t/\d=c)) e:=by
 intro u d a;by_cases g:∃b,S u b
 .obtain⟨b,f⟩:=g;obtain⟨m,hm⟩:=hex u b f;by_cases e:u=t
  .subst e;rcases Int.le_total m c with h1 |h1
   .exact⟨m,.inl hm.1,fun d a=>a.elim (hm.2 d) (fun q=>by rw[q.2];exact h1)⟩
   .exact⟨c,.inr ⟨rfl,rfl⟩,fun d a=>a.elim (fun q=>Int.le_trans h1 (hm.2 d q)) (fun q=>by rw[q.2];exact Int.le_refl _)⟩
  .exact⟨m,.inl hm.1,fun d a=>a.elim (hm.2 d) (fun q=>absurd q.1 e)⟩
 .rcases a with a |⟨rfl,rfl⟩
  .exact absurd ⟨d,a⟩ g
  .exact⟨d,.inr ⟨rfl,rfl⟩,fun b f=>f.elim (fun q=>absurd ⟨b,q⟩ g) (fun q=>by rw[q.2];exact Int.le_refl _)⟩
theorem ChI.congr {S T:ByteArray->Int->Prop}(h:ChI S a)(b:∀t c,S t c↔T t c):ChI T a:=by
 have:S=T:=funext fun t=>funext fun c=>propext (b t c);rw[<-this];exact h
theorem tq (w:ByteArray):∀(l:List Sht) (a:List (ByteArray×Int)) (S:ByteArray->Int->Prop),ChI S a->(∀t d,S t d->∃c,fJ (S t) c)->
  ChI (fun t c=>S t c\/∃s∈l,s.short=w/\s.full=t/\s.cost=c) (l.foldl (fun a s=>if s.short=w then oq a s.full s.cost else a) a)
 |[],_,S,h,_=>h.congr (fun t c=>by simp)
 |s::l,a,S,h,hex=>by
  rw[foldl_cons];by_cases e:s.short=w
  .rw[if_pos e];refine(tq w l _ _ (h.put hex s.full s.cost) (ChI.ex hex s.full s.cost)).congr (fun t c=>?_);simp only[mem_cons,exists_eq_or_imp,or_assoc];constructor
   .rintro(q |⟨rfl,rfl⟩ |q)
    .exact .inl q
    .exact .inr (.inl ⟨e,rfl,rfl⟩)
    .exact .inr (.inr q)
   .rintro(q |⟨_,rfl,rfl⟩ |q)
    .exact .inl q
    .exact .inr (.inl ⟨rfl,rfl⟩)
    .exact .inr (.inr q)
  .rw[if_neg e];refine(tq w l _ _ h hex).congr (fun t c=>?_);simp only[mem_cons,exists_eq_or_imp];constructor
   .rintro(q |q)
    .exact .inl q
    .exact .inr (.inr q)
   .rintro(q |⟨q,_⟩ |q)
    .exact .inl q
    .exact absurd q e
    .exact .inr q
theorem jX (l:List Sht)(w:ByteArray):ChI (ji l w) (chs l w):=by
 refine(tq w l [(w,0)] (fun t c=>t=w/\c=0) ⟨by simp,fun t c=>?_⟩ ?_).congr (fun t c=>Iff.rfl)
 .simp only[mem_singleton,Prod.mk.injEq];constructor
  .rintro⟨rfl,rfl⟩;exact⟨⟨rfl,rfl⟩,fun d a=>by rw[a.2];exact Int.le_refl _⟩
  .rintro⟨h,_⟩;exact h
 .rintro t d ⟨rfl,rfl⟩;exact⟨0,⟨rfl,rfl⟩,fun d a=>by rw[a.2];exact Int.le_refl _⟩
theorem ChI.perm {S:ByteArray->Int->Prop}{b:List (ByteArray×Int)}(h:ChI S a)(k:ChI S b):a.Perm b:=by
 have f:∀{a:List (ByteArray×Int)},(a.map (·.1)).Nodup->a.Nodup:=fun {a} q=>by
  have:=pairwise_map.1 q;exact this.imp (fun d e=>d (by rw[e]))
 refine(perm_ext_iff_of_nodup (f h.nodup) (f k.nodup)).2 (fun p=>?_);obtain⟨t,c⟩:=p;rw[h.mem,k.mem]
inductive jv:List (List (ByteArray×Int))->List (ByteArray×Int)->Prop
 |nil:jv [] []
 |cons {C:List (ByteArray×Int)} {Cs:List (List (ByteArray×Int))} {p:ByteArray×Int} {ps:List (ByteArray×Int)}:p∈C->jv Cs ps->jv (C::Cs) (p::ps)
def rP (ps:List (ByteArray×Int)):Int:=(ps.map (·.2)).foldr (·+·) 0
theorem uI (p:ByteArray×Int)(ps:List (ByteArray×Int)):rP (p::ps)=p.2+rP ps:=rfl
def ep:List (List (ByteArray×Int))->List ByteArray->Int->List (List ByteArray×Int)
 |[],s,c=>[(s,c)]
 |C::Cs,s,c=>C.flatMap (fun p=>ep Cs (s++[p.1]) (c+p.2))
theorem kn:∀{Cs:List (List (ByteArray×Int))} {s:List ByteArray} {c:Int} {x:List ByteArray×Int},x∈ep Cs s c↔∃ps,jv Cs ps/\x=(s++ps.map (·.1),c+rP ps)
 |[],s,c,x=>by
  rw[ep,mem_singleton];constructor
  .rintro rfl;exact⟨[],.nil,by simp[rP]⟩
  .rintro⟨ps,h,rfl⟩;cases h;simp[rP]
 |C::Cs,s,c,x=>by
  rw[ep,mem_flatMap];constructor
  .rintro⟨p,hp,a⟩;obtain⟨ps,h,rfl⟩:=kn.1 a;exact⟨p::ps,.cons hp h,by rw[uI,map_cons,append_assoc];simp[Int.add_assoc]⟩
  .rintro⟨ps,h,rfl⟩;cases h with
   |cons hp h=>
    rename_i p ps;refine⟨p,hp,kn.2 ⟨ps,h,?_⟩⟩;rw[uI,map_cons,append_assoc];simp[Int.add_assoc]
def cW (Cs:List (List (ByteArray×Int))):Nat:=(Cs.map length).foldr (·*·) 1
theorem jq:∀(Cs:List (List (ByteArray×Int))) (s:List ByteArray) (c:Int),(ep Cs s c).length=cW Cs
 |[],s,c=>rfl
 |C::Cs,s,c=>by
  rw[ep,length_flatMap];have:C.map (fun p=>(ep Cs (s++[p.1]) (c+p.2)).length)=C.map (fun _=>cW Cs):=map_congr_left (fun p _=>jq Cs _ _);rw[this];show _=C.length*cW Cs;clear this;induction C with
  |nil=>simp
  |cons p C a=>rw[map_cons,sum_cons,a,length_cons,succ_mul,Nat.add_comm]
end
section
open Go.RowKit Classical
def zk (l:List Arc)(w:World)(e:Ending)(w':World):Prop:=
 ∃v S,e= .returned v/\cR S/\(∀y,y∈S↔y∈l)/\w'.ownsRow w.heap.size 171 4 v S.length (flat S)/\Below w.heap.size w w'
def DP (l:List Arc)(w:World)(out i:Value)(wr:World):Prop:=
 ∃(k:Nat) (S:List Arc),k<=l.length/\i= .int .i64 k/\cR S/\(∀y,y∈S↔y∈l.take k)/\S.length<=k/\wr.ownsRow w.heap.size 171 4 out S.length (flat S)/\Below w.heap.size w wr
theorem lA (l:List Arc)(k:Nat)(h:k<l.length)(y:Arc):y∈l.take (k+1)↔y∈l.take k\/y=l[k]:=by
 rw[take_add_one,getElem?_eq_getElem h,mem_append];simp
theorem iS {W:World}{base:Nat}{size:Nat}{v:Value}{xs:List Value}(h:W.ownsRow base e size v (k+1) xs):∃g cap,v= .slice (some ⟨g,0,none⟩) (k+1) cap:=by
 rcases h.2 with ⟨_,a⟩ |⟨g,cap,_,rfl,_⟩
 .omega
 .exact⟨g,cap,rfl⟩
theorem mX {w:World}{base:Nat}{g n cap:Nat}{L:List Arc}(h:w.ownsRow base e 4 (.slice (some ⟨g,0,none⟩) n cap) n (flat L))(i:Nat)(x:Arc)(d:i<L.length):
  ((((w.setCell ⟨g,i*4,none⟩ (.int .i64 x.frm)).setCell ⟨g,i*4+1,none⟩ (.int .i64 x.inp)).setCell ⟨g,i*4+2,none⟩ (.int .i64 x.out)).setCell ⟨g,i*4+3,none⟩ (.int .i64 x.to)).ownsRow base e 4 (.slice (some ⟨g,0,none⟩) n cap) n (flat (L.set i x)):=by
 have h1:=(h.stored (i*4) (.int .i64 x.frm)).1;have b:=(h1.stored (i*4+1) (.int .i64 x.inp)).1;have c:=(b.stored (i*4+2) (.int .i64 x.out)).1;have a:=(c.stored (i*4+3) (.int .i64 x.to)).1;rw[C0 L i x d]at a;exact a
theorem eZ {w:World}{base:Nat}{g n cap:Nat}{L:List Arc}(h:w.ownsRow base e 4 (.slice (some ⟨g,0,none⟩) n cap) n (flat L))(i:Nat)(x:Arc)(a:L[i]?=some x):
  w.cell? ⟨g,i*4,none⟩=some (.int .i64 x.frm)/\w.cell? ⟨g,i*4+1,none⟩=some (.int .i64 x.inp)/\w.cell? ⟨g,i*4+2,none⟩=some (.int .i64 x.out)/\w.cell? ⟨g,i*4+3,none⟩=some (.int .i64 x.to):=by
 have j:L.length=n:=by have:=h.1;rw[cT]at this;omega
 have f:=(List.getElem?_eq_some_iff.1 a).1;obtain⟨b,h1,c,d⟩:=wN L i x a;refine⟨?_,?_,?_,?_⟩
 .rw[h.cellAt _ (by omega),b]
 .rw[h.cellAt _ (by omega),h1]
 .rw[h.cellAt _ (by omega),c]
 .rw[h.cellAt _ (by omega),d]
theorem Ch (S:List Arc)(p:Nat)(hp:p<S.length)(y:Arc):(S.take (p+1)++y::S.drop (p+1)).set (p+1) S[p]=S.take p++S[p]::S.drop p:=by
 rw[set_append_right _ _ (by rw[length_take];omega),length_take,show p+1-min (p+1) S.length=0 from by omega,set_cons_zero,
  take_add_one,getElem?_eq_getElem hp,append_assoc,<-drop_eq_getElem_cons hp]
 rfl
theorem Du (S:List Arc)(m:Nat)(hm:m<=S.length)(x y:Arc):(S.take m++y::S.drop m).set m x=S.take m++x::S.drop m:=by
 rw[set_append_right _ _ (by rw[length_take];omega),length_take,show m-min m S.length=0 from by omega,set_cons_zero]
theorem dQ (w:World)(cs:List Value)(t:TypeId):∀j u,cs[j]?=some u->(w.alloc (.cells cs.toArray t)).cell? ((⟨w.heap.size,0,none⟩:Addr).add j)=some u:=by
 intro j u h;have:=Box.new w cs t j u h;unfold Addr.add;split
 .rename_i e;subst e;exact this
 .simpa using this
set_option maxRecDepth 100000
set_option maxHeartbeats 2000000
theorem o7 (l:List Arc)(la:Option Addr)(lc:Nat)(hlen:l.length<=4000000000000)(w:World)(hl:b8 w w.heap.size la (flat l)):
  Calls prog 174 #[.slice la l.length lc] w (zk l w):=by
 obtain⟨i0,hi,aB,aC,aE⟩:=info_parts mn;go_enter func174,ntmps174;go_wp2_with fail;go_loopw [3,4] (fun out i wr=>DP l w out i wr) (fun _ i _=>l.length-(intOf i).toNat);case atStart=>exact⟨0,[],zero_le _,rfl,Pairwise.nil,by simp,by simp,ownsRow_nil _ _ _ _,bX⟩
 case round=>
  obtain⟨k,S,hk,rfl,Y,aa,aP,N,D⟩:=hrel;obtain⟨ua,uc,rfl,_,O⟩:=b8.ah N;have B:=bP N;have H:=bQ Y aa;clear Y aa N;by_cases t:k<l.length
  .obtain⟨b,off,rfl,hb,X⟩:=hl.arcs (by omega);have hx:=fun aH (a:Below w.heap.size w aH)=>(And.intro ((a.cell (p:=⟨b,off+k*4,none⟩) hb).trans (X k t).1) (And.intro ((a.cell (p:=⟨b,off+k*4+1,none⟩) hb).trans (X k t).2.1)
    (And.intro ((a.cell (p:=⟨b,off+k*4+2,none⟩) hb).trans (X k t).2.2.1) ((a.cell (p:=⟨b,off+k*4+3,none⟩) hb).trans (X k t).2.2.2))))
   obtain⟨x,af⟩:∃x,x=l[k]:=⟨_,rfl⟩;rw[<-af]at hx;have HX:=bP hx;have aj:=bP af;clear hx X af;obtain⟨L,rfl⟩:∃L:World,L=wr:=⟨_,rfl⟩;go_upto_block 2 with (fail);go_cut [5] (fun c5 M=>∃m:Nat,m<=S.length/\c5= .int .i64 m/\(∀(j:Nat) y,m<=j->S[j]?=some y->x.lt y)/\(∀y,0<m->S[m-1]?=some y->¬x.lt y)/\Below L.heap.size L M);case first=>
    go_wp2_with fail;go_loopw [5] (fun c5 M=>∃m:Nat,m<=S.length/\c5= .int .i64 m/\(∀(j:Nat) y,m<=j->S[j]?=some y->x.lt y)/\Below L.heap.size L M) (fun c5 _=>(intOf c5).toNat);case atStart=>exact⟨S.length,bW,rfl,fun j y Z s=>by have:=(List.getElem?_eq_some_iff.1 s).1;omega,bX⟩
    case round=>
     obtain⟨m,hm,rfl,I,a⟩:=hrel;have T:=bP I;clear I;have J:=D.trans (a.mono D.size);obtain⟨x0,x1,x2,x3⟩:=HX.out wr J;rcases m with _ |p
     .have d1:decide ((0:Int)<(0:Int))=false:=rfl;go_wp2_with fail;go_quiet (fail);go_wp2_with fail;go_meet;exact⟨0,zero_le _,rfl,T.out,by simp,Go.below_drewN a _⟩
     .obtain⟨g,o,rfl,A,E⟩:=O.arcs (by omega);have f:=E p (by omega);have y0:=(a.cell (p:=⟨g,o+p*4,none⟩) A).trans f.1;have y1:=(a.cell (p:=⟨g,o+p*4+1,none⟩) A).trans f.2.1;have y2:=(a.cell (p:=⟨g,o+p*4+2,none⟩) A).trans f.2.2.1;have y3:=(a.cell (p:=⟨g,o+p*4+3,none⟩) A).trans f.2.2.2;clear f E;have d1:decide ((0:Int)<(p:Int)+1)=true:=bZ;have ab:IntKind.i64.wrap (p:Int)=p:=IntWalk.i64_in _ (by omega);have v:p<S.length:=by omega
      go_wp2_with fail;refine wp_region_still_tail 12 (by kernel_rfl) (by kernel_rfl) ?_;simp only[take_succ_cons,take_zero,drop_succ_cons,drop_zero];repeat still_step
      refine wpStill_nil ?_;change wpList _ _ _ _ _ wr.drew;clear ab;by_cases u:x.lt S[p]
      .go_wp2_with (go_at_call 178;refine(pf _ _ u _).mono ?_;rintro e w1 ⟨rfl,U⟩);refine⟨⟨p,by omega,by go_num,fun j y Z s=>?_,a.drew.trans (U.mono a.size)⟩,by simp[intOf]⟩;rcases Nat.eq_or_lt_of_le Z with rfl |Z
       .rw[getElem?_eq_getElem (by omega)]at s;obtain rfl:=Option.some.inj s;exact u
       .exact T.out j y Z s
      .go_wp2_with (go_at_call 178;refine(qz _ _ u _).mono ?_;rintro e w1 ⟨rfl,U⟩);go_meet;refine⟨p+1,hm,by go_num,T.out,fun y _ s=>?_,a.drew.trans (U.mono a.size)⟩;rw[show p+1-1=p from rfl,getElem?_eq_getElem (by omega)]at s;obtain rfl:=Option.some.inj s;exact u
   case rest=>
    obtain⟨m,hm,rfl,I,hle,a⟩:=hcut;have Hg:=bQ I hle;clear I hle;have J:=D.trans (a.mono D.size);obtain⟨wk,rfl⟩:∃wk:World,wk=wc:=⟨_,rfl⟩;go_upto_region 8 with (fail);go_cut [44] (fun aw M=>aw= .bool (decide (0<m/\S[m-1]?=some x))/\∃q,M=wk.drewN q);case first=>
     obtain⟨x0,x1,x2,x3⟩:=HX.out wk J;rcases m with _ |p
     .have d1:decide ((0:Int)<(0:Int))=false:=rfl;go_quiet (fail);go_wp2_with fail;go_meet;exact⟨by simp,_,rfl⟩
     .have v:p<S.length:=by omega
      obtain⟨g,o,rfl,A,E⟩:=O.arcs (by omega);have f:=E p v;have y0:=(a.cell (p:=⟨g,o+p*4,none⟩) A).trans f.1;have y1:=(a.cell (p:=⟨g,o+p*4+1,none⟩) A).trans f.2.1;have y2:=(a.cell (p:=⟨g,o+p*4+2,none⟩) A).trans f.2.2.1;have y3:=(a.cell (p:=⟨g,o+p*4+3,none⟩) A).trans f.2.2.2;clear f E;have d1:decide ((0:Int)<(p:Int)+1)=true:=bZ;have ab:IntKind.i64.wrap (p:Int)=p:=IntWalk.i64_in _ (by omega);have hq:=tv S[p] x;have aQ:=pJ;go_wp2_with fail;go_quiet (fail);clear ab;go_wp2_with fail;go_meet;exact⟨by simp[getElem?_eq_getElem v],_,rfl⟩
    case rest=>
     obtain⟨rfl,q,ad⟩:=hcut;have az:Below L.heap.size L wc:=ad▸Go.below_drewN a q;have ae:Below w.heap.size w wc:=ad▸Go.below_drewN J q;have r:=cJ B.out az;clear ad a J;by_cases d:0<m/\S[m-1]?=some x
     .have d1:decide (0<m/\S[m-1]?=some x)=true:=decide_eq_true d;rw[d1];have Hf:=bP d;clear d d1;go_wp2;refine⟨⟨k+1,S,by omega,by go_num,H.out.1,fun y=>?_,by omega,r,ae⟩,by simp[intOf];omega⟩;rw[lA l k t,<-aj.out,<-H.out.2];exact⟨.inl,fun h=>h.elim id (fun e=>e▸mem_of_getElem? Hf.out.2)⟩
     .have d1:decide (0<m/\S[m-1]?=some x)=false:=decide_eq_false d;rw[d1];have Hf:=bP d;clear d d1;have aT:=ae.size;go_wp2_with (at_builtin;refine wpList_append_own _ rfl _ _ 96 rfl w.heap.size 171 i0 _ 4 32 underlying96 hi aB aC aE rfl (by decide) _ _ _ rfl (r.alloc _) ⟨wc.heap.size,0,none⟩ 1 1 [.int .i64 0,.int .i64 0,.int .i64 0,.int .i64 0] rfl rfl ?c1 ?c2 ?c3 ?c4 ?c5 ?_);case c1=>exact dQ _ _ _
      case c2=>simp[Value.oneCell']
      case c3=>unfold maxLen;omega
      case c4=>omega
      case c5=>simp;omega
      intro v' w2 C G _;obtain⟨g,cap,rfl⟩:=iS C;have ay:Below w.heap.size w w2:=(ae.alloc (by omega) _).grown G (by simp;omega) (fun k hk=>(r.lt k hk).1);have Q:w2.ownsRow w.heap.size 171 4 (.slice (some ⟨g,0,none⟩) (S.length+1) cap) (S.length+1) (flat (S.take S.length++⟨0,0,0,0⟩::S.drop S.length)):=by
       rw[take_length,drop_length,fR];exact C
      have Ho:=bP Q;clear C G Q r B O;go_wp2_with fail;go_loopw [6] (fun j6 M=>∃(j:Nat) (y:Arc),m<=j/\j<=S.length/\j6= .int .i64 j/\M.ownsRow w.heap.size 171 4 (.slice (some ⟨g,0,none⟩) (S.length+1) cap) (S.length+1) (flat (S.take j++y::S.drop j))/\Below w.heap.size w M) (fun j6 _=>(intOf j6).toNat);case atStart=>exact⟨S.length,_,hm,bW,by go_num,Ho.out,ay⟩
      case round=>
       obtain⟨j,y,aS,Z,rfl,R,V⟩:=hrel;have c:=bP R;clear R;have P:(S.take j++y::S.drop j).length=S.length+1:=by simp;omega
       have al:=bP P;clear P;have n:=(c.out.lt g rfl).1;by_cases aR:m<j
       .obtain⟨p,rfl⟩:∃p,j=p+1:=⟨j-1,by omega⟩;have v:p<S.length:=by omega
        have ak:(S.take (p+1)++y::S.drop (p+1))[p]?=some S[p]:=by
         rw[getElem?_append_left (by rw[length_take];omega),getElem?_take,if_pos (by omega),getElem?_eq_getElem v]
        have F:(S.take (p+1)++y::S.drop (p+1))[p+ 1]?=some y:=by
         rw[getElem?_append_right (by rw[length_take];omega),length_take,show p+1-min (p+1) S.length=0 from by omega];rfl
        obtain⟨y0,y1,y2,y3⟩:=eZ c.out p _ ak;obtain⟨z0,z1,z2,z3⟩:=eZ c.out (p+1) _ F;have f0:=c.out.frozenAt ((p+1)*4);have f1:=c.out.frozenAt ((p+1)*4+1);have f2:=c.out.frozenAt ((p+1)*4+2);have f3:=c.out.frozenAt ((p+1)*4+3);clear ak F;go_wp2;refine⟨⟨p,S[p],by omega,by omega,rfl,?_,(((V.setCell (p:=⟨g,(p+1)*4,none⟩) n _).setCell (p:=⟨g,(p+1)*4+1,none⟩) n _).setCell (p:=⟨g,(p+1)*4+2,none⟩) n _).setCell (p:=⟨g,(p+1)*4+3,none⟩) n _⟩,by simp[intOf]⟩;have:=mX c.out (p+1) S[p] (by rw[al.out];omega);rwa [Ch S p v]at this
       .obtain rfl:j=m:=by omega
        obtain⟨x0,x1,x2,x3⟩:=HX.out wr V;have F:(S.take j++y::S.drop j)[j]?=some y:=by
         rw[getElem?_append_right (by rw[length_take];omega),length_take,show j-min j S.length=0 from by omega];rfl
        obtain⟨z0,z1,z2,z3⟩:=eZ c.out j _ F;have f0:=c.out.frozenAt (j*4);have f1:=c.out.frozenAt (j*4+1);have f2:=c.out.frozenAt (j*4+2);have f3:=c.out.frozenAt (j*4+3);clear F;go_wp2;have u:∀y,0<j->S[j-1]?=some y->y.lt x:=fun y h0 s=>by
         refine Classical.byContradiction fun h=>?_;have e:y=x:=Arc.aD h (Hg.out.2 y h0 s);subst e;exact Hf.out ⟨h0,s⟩
        refine⟨⟨k+1,S.take j++x::S.drop j,by omega,by go_num,H.out.1.put x j hm Hg.out.1 u,fun z=>?_,by simp;omega,?_,(((V.setCell (p:=⟨g,j*4,none⟩) n _).setCell (p:=⟨g,j*4+1,none⟩) n _).setCell (p:=⟨g,j*4+2,none⟩) n _).setCell (p:=⟨g,j*4+3,none⟩) n _⟩,by simp[intOf];omega⟩
        .rw[lA l k t,<-aj.out,<-H.out.2];constructor
         .intro hz;rcases mem_append.1 hz with h |h
          .exact .inl (mem_of_mem_take h)
          .rcases mem_cons.1 h with rfl |h
           .exact .inr rfl
           .exact .inl (mem_of_mem_drop h)
         .rintro(h |rfl)
          .rw[<-take_append_drop j S]at h;rcases mem_append.1 h with h |h
           .exact mem_append_left _ h
           .exact mem_append_right _ (mem_cons_of_mem _ h)
          .exact mem_append_right _ (mem_cons_self ..)
        .have:=mX c.out j x (by rw[al.out];omega);rw[Du S j hm]at this;have aA:(S.take j++x::S.drop j).length=S.length+1:=by simp;omega
         rw[aA];exact this
  .obtain rfl:k=l.length:=by omega
   go_wp2;go_ret;exact⟨_,S,rfl,H.out.1,fun y=>by rw[H.out.2,take_length],B.out,D⟩
structure cu where
 ag:Int
 start:Int
 final:List Int
 arcs:List Arc
def dx (w:World)(B:Nat)(v:Value)(M:cu):Prop:=
 ∃fa fc aa ac,v= .agg #[.int .i64 M.ag,.int .i64 M.start,.slice fa M.final.length fc,.slice aa M.arcs.length ac]/\M.final.length<=maxLen/\M.arcs.length<=maxLen/\
  b8 w B fa (nums M.final)/\b8 w B aa (flat M.arcs)
theorem dx.below {w w':World}{B B':Nat}{v:Value}{M:cu}(h:dx w B v M)(b:Below B' w w')(a:B<=B'):dx w' B v M:=by
 obtain⟨fa,fc,aa,ac,e,h1,c,d,f⟩:=h;exact⟨fa,fc,aa,ac,e,h1,c,d.below b a,f.below b a⟩
theorem dx.more {w:World}{B B':Nat}{v:Value}{M:cu}(h:dx w B v M)(a:B<=B'):dx w B' v M:=by
 obtain⟨fa,fc,aa,ac,e,h1,b,c,d⟩:=h;exact⟨fa,fc,aa,ac,e,h1,b,c.more a,d.more a⟩
theorem mW {a b:List α}(d:a.length=b.length)(h:∀j,j<a.length->a[j]?=b[j]?):a=b:=by
 apply ext_getElem?;intro j;rcases Nat.lt_or_ge j a.length with c |c
 .exact h j c
 .rw[getElem?_eq_none c,getElem?_eq_none (by omega)]
theorem Eo {a b:List α}(h:∀j,j<k->a[j]?=b[j]?)(d:k<a.length)(f:k<b.length)(e:a[k]=b[k]):∀j,j<k+1->a[j]?=b[j]?:=by
 intro j c;rcases Nat.lt_succ_iff_lt_or_eq.1 c with c |rfl
 .exact h j c
 .rw[getElem?_eq_getElem d,getElem?_eq_getElem f,e]
def orI:List Int->Int
 |[]=>0
 |x::r=>if x=0 then orI r else x
theorem xq {l:List Int}(h:∀j,j<k->l[j]?=some 0)(hk:k<=l.length):orI l=orI (l.drop k):=by
 induction k generalizing l with
 |zero=>rfl
 |succ k c=>
  cases l with
  |nil=>simp at hk
  |cons a l=>
   have b:=h 0 (by omega);simp at b;subst b;rw[orI,if_pos rfl,c (fun j d=>by have:=h (j+1) (by omega);simpa using this) (by simpa using hk)];rfl
theorem rV (b:List Int)(a:Option Addr)(c:Nat)(B:Nat)(m:b.length<=maxLen)(w:World)(h:b8 w B a (nums b)):
  Calls prog 35 #[.slice a b.length c] w fun e w'=>e= .returned (.int .i64 (orI b))/\w'=w:=by
 unfold maxLen at m;go_enter func35,ntmps35;go_wp2_with fail;go_loop [8] (fun i=>∃k:Nat,k<=b.length/\i= .int .i64 k/\(∀j,j<k->b[j]?=some 0)) (fun i=>b.length-(intOf i).toNat);case atStart=>exact⟨0,zero_le _,rfl,by simp⟩
 case round=>
  obtain⟨k,hk,rfl,p⟩:=hrel;have f:=bP p;clear p;by_cases l:k<b.length
  .obtain⟨g,o,rfl,t,r⟩:=h.nums (by omega);have c0:=r k l;have d:=bP (getElem?_eq_getElem l);have n:=bP (show orI b=if b[k]=0 then orI (b.drop (k+1)) else b[k]from by rw[xq f.out hk,drop_eq_getElem_cons l];rfl);obtain⟨z,m⟩:∃z,b[k]=z:=⟨_,rfl⟩;rw[m]at c0 d n;clear r m;by_cases he:z=0
   .subst he;go_wp2;refine⟨⟨k+1,by omega,by go_num,fun j q=>?_⟩,by simp[intOf];omega⟩;rcases Nat.lt_succ_iff_lt_or_eq.1 q with q |rfl
    .exact f.out j q
    .exact d.out
   .have d1:(z != 0)=true:=by simpa using he
    have s:=bP he;clear he;go_wp2;go_ret;exact⟨dL (by rw[n.out,if_neg s.out]),rfl⟩
  .go_wp2;go_ret;refine⟨dL ?_,rfl⟩;rw[xq f.out hk,drop_of_length_le (by omega)];rfl
end
section
open Go Classical
def cmpL:List ByteArray->List ByteArray->Int
 |[],[]=>0
 |[],_::_=> -1
 |_::_,[]=>1
 |a::xs,b::c=>if gi a b=0 then cmpL xs c else gi a b
theorem pt (a:ByteArray):gi a a=0:=tt.2 rfl
theorem zA {a b c:ByteArray}(h:gi a b<0)(k:gi b c<0):gi a c<0:=j9.2 (List.lt_trans (j9.1 h) (j9.1 k))
theorem CS (a b:ByteArray):gi a b<0\/a=b\/gi b a<0:=by
 rcases Classical.em (bl a<bl b)with h |h
 .exact .inl (j9.2 h)
 .rcases Classical.em (bl b<bl a)with k |k
  .exact .inr (.inr (j9.2 k))
  .exact .inr (.inl (cY (List.le_antisymm (List.not_lt.1 k) (List.not_lt.1 h))))
theorem cmpL_eq:∀{a b:List ByteArray},cmpL a b=0↔a=b
 |[],[]=>by simp[cmpL]
 |[],_::_=>by simp[cmpL]
 |_::_,[]=>by simp[cmpL]
 |a::xs,b::c=>by
  rw[cmpL];split
  .rename_i h;have:=tt.1 h;rw[cmpL_eq,this];simp
  .rename_i h;constructor
   .intro e;exact absurd e h
   .intro e;obtain⟨rfl,rfl⟩:=cons.inj e;exact absurd (pt a) h
theorem kT {a b:ByteArray}{xs c:List ByteArray}:cmpL (a::xs) (b::c)<0↔gi a b<0\/(a=b/\cmpL xs c<0):=by
 rw[cmpL];split
 .rename_i h;have e:=tt.1 h;constructor
  .intro q;exact .inr ⟨e,q⟩
  .rintro(q |⟨_,q⟩)
   .omega
   .exact q
 .rename_i h;constructor
  .intro q;exact .inl q
  .rintro(q |⟨rfl,_⟩)
   .exact q
   .exact absurd (pt a) h
theorem sd:∀{a b c:List ByteArray},cmpL a b<0->cmpL b c<0->cmpL a c<0
 |[],[],_,h,_=>by simp[cmpL]at h
 |_::_,[],_,h,_=>by simp[cmpL]at h
 |_,_::_,[],_,k=>by simp[cmpL]at k
 |[],_::_,_::_,_,_=>by simp[cmpL]
 |a::xs,b::d,c::e,h,k=>by
  rw[kT]at h k⊢;rcases h with h |⟨rfl,h⟩<;>rcases k with k |⟨rfl,k⟩
  .exact .inl (zA h k)
  .exact .inl h
  .exact .inl k
  .exact .inr ⟨rfl,sd h k⟩
theorem vT:∀(a b:List ByteArray),cmpL a b<0\/a=b\/cmpL b a<0
 |[],[]=> .inr (.inl rfl)
 |[],_::_=> .inl (by simp[cmpL])
 |_::_,[]=> .inr (.inr (by simp[cmpL]))
 |a::xs,b::c=>by
  rw[kT,kT];rcases CS a b with h |rfl |h
  .exact .inl (.inl h)
  .rcases vT xs c with h |rfl |h
   .exact .inl (.inr ⟨rfl,h⟩)
   .exact .inr (.inl rfl)
   .exact .inr (.inr (.inr ⟨rfl,h⟩))
  .exact .inr (.inr (.inl h))
def ltX (x y:List ByteArray×Int):Prop:=x.2<y.2\/(x.2=y.2/\cmpL x.1 y.1<0)
theorem lf {x y z:List ByteArray×Int}(h:ltX x y)(k:ltX y z):ltX x z:=by
 unfold ltX at *;rcases h with h |⟨h,a⟩<;>rcases k with k |⟨k,b⟩
 .exact .inl (by omega)
 .exact .inl (by omega)
 .exact .inl (by omega)
 .exact .inr ⟨by omega,sd a b⟩
theorem lJ (x:List ByteArray×Int):¬ltX x x:=by
 unfold ltX;rintro(h |⟨_,h⟩)
 .omega
 .rw[cmpL_eq.2 rfl]at h;omega
theorem qu (x y:List ByteArray×Int):ltX x y\/x=y\/ltX y x:=by
 obtain⟨a,c⟩:=x;obtain⟨b,d⟩:=y;unfold ltX;rcases Int.lt_trichotomy c d with h |rfl |h
 .exact .inl (.inl h)
 .rcases vT a b with h |rfl |h
  .exact .inl (.inr ⟨rfl,h⟩)
  .exact .inr (.inl rfl)
  .exact .inr (.inr (.inr ⟨rfl,h⟩))
 .exact .inr (.inr (.inl h))
def lP (l:List (List ByteArray×Int)):Prop:=l.Pairwise ltX
theorem lP.ext {a b:List (List ByteArray×Int)}(d:lP a)(f:lP b)(h:∀x,x∈a↔x∈b):a=b:=by
 have i:∀{a:List (List ByteArray×Int)},lP a->a.Nodup:=fun {a} q=>q.imp (fun g e=>by subst e;exact lJ _ g);have hp:a.Perm b:=(perm_ext_iff_of_nodup (i d) (i f)).2 h;refine Perm.eq_of_pairwise (le:=fun x y=>ltX x y\/x=y) (fun x y _ _ h1 c=>?_) (d.imp .inl) (f.imp .inl) hp;rcases h1 with h1 |h1
 .rcases c with c |c
  .exact absurd (lf h1 c) (lJ x)
  .exact c.symm
 .exact h1
structure dS (l:List Sht):Prop where
 most:l.length<=100
 each:∀s∈l,df (bl s.lang)=true/\eY s.short 24/\eY s.full 24/\0<=s.cost/\s.cost<=1000
 once:l.Nodup
def Plain (W:List ByteArray):Prop:=1<=W.length/\W.length<=12/\∀w∈W,eY w 120
noncomputable def dN (l:List Sht)(W:List ByteArray):List (List (ByteArray×Int)):=W.map (chs l)
def dq (l:List Sht)(W:List ByteArray)(all:List (List ByteArray×Int))(err:Int):Prop:=
 (¬(dS l/\Plain W)/\all=[]/\err=1)\/((dS l/\Plain W)/\64<cW (dN l W)/\all=[]/\err=2)\/
 ((dS l/\Plain W)/\cW (dN l W)<=64/\err=0/\lP all/\all.length=cW (dN l W)/\∀x,x∈all↔∃ps,jv (dN l W) ps/\x=(ps.map (·.1),rP ps))
section
variable {Cs Ds : List (List (ByteArray × Int))} {ps qs : List (ByteArray × Int)}
theorem iU:∀(Cs Ds:List (List (ByteArray×Int))),cW (Cs++Ds)=cW Cs*cW Ds
 |[],Ds=>by show cW Ds=1*cW Ds;rw[Nat.one_mul]
 |C::Cs,Ds=>by
  show C.length*cW (Cs++Ds)=C.length*cW Cs*cW Ds;rw[iU Cs Ds,Nat.mul_assoc]
theorem lK (C:List (ByteArray×Int))(Cs:List (List (ByteArray×Int))):cW (C::Cs)=C.length*cW Cs:=rfl
theorem jr {f g:α->List (ByteArray×Int)}:∀{W:List α} {ps:List (ByteArray×Int)},(∀w∈W,∀p,p∈f w->p∈g w)->jv (W.map f) ps->jv (W.map g) ps
 |[],ps,_,h=>h
 |w::W,ps,a,h=>by
  rw[map_cons]at h⊢;cases h with
  |cons hp b=>exact .cons (a w (mem_cons_self ..) _ hp) (jr (fun v c=>a v (mem_cons_of_mem _ c)) b)
theorem mY {f g:α->List (ByteArray×Int)}:∀{W:List α},(∀w∈W,(f w).length=(g w).length)->cW (W.map f)=cW (W.map g)
 |[],_=>rfl
 |w::W,h=>by
  rw[map_cons,map_cons,lK,lK,h w (mem_cons_self ..),mY (fun v a=>h v (mem_cons_of_mem _ a))]
end
section
variable {l m : List Sht} {W V : List ByteArray}
theorem zz (l:List Sht)(W:List ByteArray):∀C∈dN l W,(C.map (·.1)).Nodup:=fun C hC=>by
 obtain⟨w,_,rfl⟩:=mem_map.1 hC;exact(jX l w).nodup
theorem CT (h:dS l)(a:ji l w t c):0<=c:=by
 rcases a with ⟨_,rfl⟩ |⟨s,b,_,_,rfl⟩
 .omega
 .exact(h.each s b).2.2.2.1
theorem DW (h:dS l)(w:ByteArray):(w,0)∈chs l w:=((jX l w).mem w 0).2 ⟨.inl ⟨rfl,rfl⟩,fun _ a=>CT h a⟩
theorem yI (h:dS l)(w:ByteArray):1<=(chs l w).length:=length_pos_of_mem (DW h w)
theorem ux (h:dS l):∀W:List ByteArray,1<=cW (dN l W)
 |[]=>bW
 |w::W=>by
  show 1<=(chs l w).length*cW (dN l W);exact Nat.mul_pos (yI h w) (ux h W)
variable {all : List (List ByteArray × Int)}
theorem dq.same {a b:List (List ByteArray×Int)}{e f:Int}(q:∀w t c,ji l w t c↔ji m w t c)(hp:dS l↔dS m)(h:dq l W a e)(k:dq m W b f):a=b/\e=f:=by
 have d:∀w,(chs l w).Perm (chs m w):=fun w=>(jX l w).perm ((jX m w).congr (fun t c=>(q w t c).symm));have o:cW (dN l W)=cW (dN m W):=mY (fun w _=>(d w).length_eq);have g:∀ps,jv (dN l W) ps↔jv (dN m W) ps:=fun ps=>⟨jr (fun w _ p hp=>(d w).mem_iff.1 hp),jr (fun w _ p hp=>(d w).mem_iff.2 hp)⟩;unfold dq at h k;rw[<-hp,<-o]at k;rcases h with ⟨h1,rfl,rfl⟩ |⟨h1,i,rfl,rfl⟩ |⟨h1,i,rfl,j,_,n⟩<;>rcases k with ⟨k1,rfl,rfl⟩ |⟨k1,k2,rfl,rfl⟩ |⟨k1,k2,rfl,r,_,s⟩
 .exact⟨rfl,rfl⟩
 .exact absurd k1 h1
 .exact absurd k1 h1
 .exact absurd h1 k1
 .exact⟨rfl,rfl⟩
 .omega
 .exact absurd h1 k1
 .omega
 .refine⟨j.ext r (fun x=>?_),rfl⟩;rw[n,s];exact⟨fun⟨ps,h,e⟩=>⟨ps,(g ps).1 h,e⟩,fun⟨ps,h,e⟩=>⟨ps,(g ps).2 h,e⟩⟩
theorem kH (V W:List ByteArray):dN l (V++W)=dN l V++dN l W:=map_append
end
def CIn (V:List ByteArray)(m:List Sht)(k:ByteArray×ByteArray)(c:Int):Prop:=(k.1∈V/\k.2=k.1/\c=0)\/∃s∈m,s.short=k.1/\s.full=k.2/\s.cost=c
structure dZ (S:ByteArray×ByteArray->Int->Prop)(es:List ((ByteArray×ByteArray)×Int)):Prop where
 nodup:(es.map (·.1)).Nodup
 mem:∀k c,(k,c)∈es↔fJ (S k) c
 ex:∀k c,S k c->∃d,fJ (S k) d
theorem dZ.start:dZ (fun _ _=>False) []:=⟨by simp,fun k c=>⟨fun h=>(by cases h),fun h=>h.1.elim⟩,fun _ _ h=>h.elim⟩
theorem dZ.congr {S T:ByteArray×ByteArray->Int->Prop}{es:List ((ByteArray×ByteArray)×Int)}(h:dZ S es)(a:∀k c,S k c↔T k c):dZ T es:=by
 have:S=T:=funext fun k=>funext fun c=>propext (a k c);rw[<-this];exact h
noncomputable def qb (es:List ((ByteArray×ByteArray)×Int))(k:ByteArray×ByteArray)(c:Int):List ((ByteArray×ByteArray)×Int):=es.map (fun p=>if p.1=k then (k,c) else p)
theorem rG {S:Int->Prop}{m:Int}(h:fJ S m):fJ (fun d=>S d\/d=c) (min m c):=by
 refine⟨?_,?_⟩
 .rcases Int.le_total m c with q |q
  .rw[Int.min_eq_left q];exact .inl h.1
  .rw[Int.min_eq_right q];exact .inr rfl
 .rintro d (q |rfl)
  .have:=h.2 d q;omega
  .omega
section
variable {S : ByteArray × ByteArray → Int → Prop} {es : List ((ByteArray × ByteArray) × Int)} {k0 : ByteArray × ByteArray} {c0 d : Int}
theorem dZ.aZ (h:dZ S es)(k0:ByteArray×ByteArray)(c0:Int):∀k c,(S k c\/(k=k0/\c=c0))->∃d,fJ (fun c=>S k c\/(k=k0/\c=c0)) d:=by
 intro k c a;by_cases hk:k=k0
 .subst hk;by_cases f:∃e,S k e
  .obtain⟨e,g⟩:=f;obtain⟨m,hm⟩:=h.ex k e g;refine⟨_,((rG hm (c:=c0)):fJ (fun d=>S k d\/d=c0) _).1.elim (fun q=> .inl q) (fun q=> .inr ⟨rfl,q⟩),fun d b=>(rG hm (c:=c0)).2 d (b.elim .inl (fun q=> .inr q.2))⟩
  .exact⟨c0,.inr ⟨rfl,rfl⟩,fun d b=>b.elim (fun q=>absurd ⟨d,q⟩ f) (fun q=>by rw[q.2];exact Int.le_refl _)⟩
 .rcases a with a |a
  .obtain⟨m,hm⟩:=h.ex k c a;exact⟨m,.inl hm.1,fun d b=>b.elim (hm.2 d) (fun q=>absurd q.1 hk)⟩
  .exact absurd a.1 hk
theorem dZ.aB (h:dZ S es)(g:∀p∈es,p.1≠k0):dZ (fun k c=>S k c\/(k=k0/\c=c0)) (es++[(k0,c0)]):=by
 have i:∀c,¬S k0 c:=fun c o=>by
  obtain⟨m,hm⟩:=h.ex k0 c o;exact g _ ((h.mem k0 m).2 hm) rfl
 refine⟨?_,fun k c=>?_,h.aZ k0 c0⟩
 .rw[map_append];refine nodup_append.2 ⟨h.nodup,by simp,fun a l b n e=>?_⟩;obtain⟨p,hp,rfl⟩:=mem_map.1 l;have:b=k0:=by simpa using n
  exact g p hp (e.trans this)
 .rw[mem_append,mem_singleton,Prod.mk.injEq,h.mem];constructor
  .rintro(q |⟨rfl,rfl⟩)
   .refine⟨.inl q.1,fun d f=>f.elim (q.2 d) (fun r=>?_)⟩;exact absurd (r.1▸q.1) (i c)
   .exact⟨.inr ⟨rfl,rfl⟩,fun d f=>f.elim (fun r=>absurd r (i d)) (fun r=>by rw[r.2];exact Int.le_refl _)⟩
  .rintro⟨q |q,j⟩
   .exact .inl ⟨q,fun d f=>j d (.inl f)⟩
   .exact .inr q
theorem dZ.aK (h:dZ S es)(f:(k0,d)∈es)(hle:c0<=d):dZ (fun k c=>S k c\/(k=k0/\c=c0)) (qb es k0 c0):=by
 have j:=(h.mem k0 d).1 f;refine⟨?_,fun k c=>?_,h.aZ k0 c0⟩
 .have:(qb es k0 c0).map (·.1)=es.map (·.1):=by
   unfold qb;rw[map_map];refine map_congr_left (fun p _=>?_);simp only[Function.comp_apply];split
   .rename_i e;exact e.symm
   .rfl
  rw[this];exact h.nodup
 .unfold qb;rw[mem_map];constructor
  .rintro⟨⟨m,n⟩,hp,e⟩;have g:=(h.mem m n).1 hp;split at e
   .obtain⟨rfl,rfl⟩:=Prod.mk.inj e;refine⟨.inr ⟨rfl,rfl⟩,fun b a=>a.elim (fun r=>?_) (fun r=>by rw[r.2];exact Int.le_refl _)⟩;have:=j.2 b r;omega
   .rename_i l;obtain⟨rfl,rfl⟩:=Prod.mk.inj e;exact⟨.inl g.1,fun b a=>a.elim (g.2 b) (fun r=>absurd r.1 l)⟩
  .rintro⟨q,i⟩;by_cases e:k=k0
   .subst e;refine⟨(k,d),f,?_⟩;simp only[if_pos,Prod.mk.injEq,true_and];have o:=i c0 (.inr ⟨rfl,rfl⟩);rcases q with q |⟨_,q⟩
    .have:=j.2 c q;omega
    .exact q.symm
   .refine⟨(k,c),(h.mem k c).2 ⟨q.resolve_right (fun r=>e r.1),fun b a=>i b (.inl a)⟩,?_⟩;rw[if_neg e]
theorem dZ.keep (h:dZ S es)(g:(k0,d)∈es)(hle:d<=c0):dZ (fun k c=>S k c\/(k=k0/\c=c0)) es:=by
 have f:=(h.mem k0 d).1 g;refine⟨h.nodup,fun k c=>?_,h.aZ k0 c0⟩;rw[h.mem];constructor
 .rintro⟨q,a⟩;refine⟨.inl q,fun e b=>b.elim (a e) (fun r=>?_)⟩;obtain⟨rfl,rfl⟩:=r;have:=a d f.1;omega
 .rintro⟨q,a⟩;refine⟨?_,fun e b=>a e (.inl b)⟩;rcases q with q |⟨rfl,rfl⟩
  .exact q
  .have:=a d (.inl f.1);have:d=c:=by omega
   rw[<-this];exact f.1
theorem dZ.look (_:dZ S es)(k:ByteArray×ByteArray):(∀p∈es,p.1≠k)\/∃d,(k,d)∈es:=by
 by_cases h:∃p∈es,p.1=k
 .obtain⟨⟨a,d⟩,hp,rfl⟩:=h;exact .inr ⟨d,hp⟩
 .exact .inl (fun p hp e=>h ⟨p,hp,e⟩)
end
theorem CL (V:List ByteArray)(w:ByteArray)(k:ByteArray×ByteArray)(c:Int):(CIn V [] k c\/(k=(w,w)/\c=0))↔CIn (V++[w]) [] k c:=by
 obtain⟨a,b⟩:=k;simp only[CIn,mem_append,mem_singleton,Prod.mk.injEq,not_mem_nil,false_and,exists_false,or_false];constructor
 .rintro(⟨h1,d,e⟩ |⟨⟨rfl,rfl⟩,rfl⟩)
  .exact⟨.inl h1,d,e⟩
  .exact⟨.inr rfl,rfl,rfl⟩
 .rintro⟨h1 |rfl,d,e⟩
  .exact .inl ⟨h1,d,e⟩
  .exact .inr ⟨⟨rfl,d⟩,e⟩
theorem pn (V:List ByteArray)(m:List Sht)(s:Sht)(k:ByteArray×ByteArray)(c:Int):(CIn V m k c\/(k=(s.short,s.full)/\c=s.cost))↔CIn V (m++[s]) k c:=by
 obtain⟨a,b⟩:=k;simp only[CIn,mem_append,mem_singleton,Prod.mk.injEq];constructor
 .rintro((h |⟨x,d,h⟩) |⟨⟨rfl,rfl⟩,rfl⟩)
  .exact .inl h
  .exact .inr ⟨x,.inl d,h⟩
  .exact .inr ⟨s,.inr rfl,rfl,rfl,rfl⟩
 .rintro(h |⟨x,d |rfl,h⟩)
  .exact .inl (.inl h)
  .exact .inl (.inr ⟨x,d,h⟩)
  .exact .inr ⟨⟨h.1.symm,h.2.1.symm⟩,h.2.2.symm⟩
noncomputable def sg (es:List ((ByteArray×ByteArray)×Int))(k:ByteArray×ByteArray):Int:=if h:∃c,(k,c)∈es then Classical.choose h else 0
theorem nX {es:List ((ByteArray×ByteArray)×Int)}{k:ByteArray×ByteArray}(h:(k,c)∈es):(k,sg es k)∈es:=by
 unfold sg;rw[dif_pos ⟨c,h⟩];exact Classical.choose_spec (⟨c,h⟩:∃c,(k,c)∈es)
noncomputable def cO (a:List (ByteArray×ByteArray))(w:ByteArray):List ByteArray:=(a.filter (fun k=>decide (k.1=w))).map (·.2)
theorem sZ (a:List (ByteArray×ByteArray))(k:ByteArray×ByteArray)(w:ByteArray):cO (a++[k]) w=cO a w++(if k.1=w then [k.2] else []):=by
 unfold cO;rw[filter_append,map_append];congr 1;by_cases h:k.1=w<;>simp[h]
noncomputable def rowOf (es:List ((ByteArray×ByteArray)×Int))(a:List (ByteArray×ByteArray))(w:ByteArray):List (ByteArray×Int):=(cO a w).map (fun t=>(t,sg es (w,t)))
theorem pX (es:List ((ByteArray×ByteArray)×Int))(a:List (ByteArray×ByteArray))(w:ByteArray):(rowOf es a w).map (·.1)=cO a w:=by
 unfold rowOf;rw[map_map];exact(map_congr_left (fun t _=>rfl)).trans (map_id _)
theorem pQ {c:List (ByteArray×ByteArray)}:t∈cO c w↔(w,t)∈c:=by
 unfold cO;rw[mem_map];constructor
 .rintro⟨⟨a,b⟩,h,rfl⟩;obtain⟨h1,d⟩:=mem_filter.1 h;have:a=w:=by simpa using d
  subst this;exact h1
 .intro h;exact⟨(w,t),mem_filter.2 ⟨h,by simp⟩,rfl⟩
theorem Dp {l:List Sht}{V:List ByteArray}{es:List ((ByteArray×ByteArray)×Int)}(h:dZ (CIn V l) es){g:List (ByteArray×ByteArray)}(hp:g.Perm (es.map (·.1)))(hw:w∈V):ChI (ji l w) (rowOf es g w):=by
 have r:∀t c,CIn V l (w,t) c↔ji l w t c:=fun t c=>by
  unfold CIn ji;exact or_congr ⟨fun q=>q.2,fun q=>⟨hw,q⟩⟩ Iff.rfl
 have n:∀t,CIn V l (w,t)=ji l w t:=fun t=>funext fun c=>propext (r t c);have i:g.Nodup:=hp.nodup_iff.2 h.nodup;refine⟨?_,fun t c=>?_⟩
 .rw[pX];unfold cO;refine pairwise_map.2 ((i.sublist filter_sublist).imp_of_mem (fun {a b} o p j e=>j ?_));have h1:a.1=w:=by simpa using(mem_filter.1 o).2
  have m:b.1=w:=by simpa using(mem_filter.1 p).2
  exact Prod.ext (h1.trans m.symm) e
 .have hm:=h.mem (w,t);rw[n t]at hm;rw[<-hm];unfold rowOf;rw[mem_map];constructor
  .rintro⟨v,u,e⟩;obtain⟨rfl,rfl⟩:=Prod.mk.inj e;obtain⟨⟨k,d⟩,s,e⟩:=mem_map.1 (hp.mem_iff.1 (pQ.1 u));simp only at e;subst e;exact nX s
  .intro f;refine⟨t,pQ.2 (hp.mem_iff.2 (mem_map.2 ⟨_,f,rfl⟩)),?_⟩;exact Prod.ext rfl (((hm _).1 (nX f)).uniq ((hm c).1 f))
theorem jd:∀(Cs:List (List (ByteArray×Int))) (s:List ByteArray) (c:Int),(∀C∈Cs,(C.map (·.1)).Nodup)->((ep Cs s c).map (·.1)).Nodup
 |[],s,c,_=>by simp[ep]
 |C::Cs,s,c,h=>by
  rw[ep,map_flatMap];refine pairwise_flatMap.2 ⟨fun p _=>jd Cs _ _ (fun D f=>h D (mem_cons_of_mem _ f)),?_⟩;have h1:=pairwise_map.1 (h C (mem_cons_self ..));refine h1.imp (fun {p q} a x g y i e=>a ?_);obtain⟨j,b,rfl⟩:=mem_map.1 g;obtain⟨k,d,rfl⟩:=mem_map.1 i;obtain⟨ps,_,rfl⟩:=kn.1 b;obtain⟨qs,_,rfl⟩:=kn.1 d;simp only[append_assoc]at e;have:=append_cancel_left e;exact(cons.inj (by simpa using this)).1
structure ik (l:List Sht)(W:List ByteArray)(f:ByteArray->List (ByteArray×Int)):Prop where
 each:∀w∈W,ChI (ji l w) (f w)
theorem ik.perm {l:List Sht}{W:List ByteArray}(h:ik l W f)(hw:w∈W):(f w).Perm (chs l w):=(h.each w hw).perm (jX l w)
theorem ik.prod {l:List Sht}{W:List ByteArray}(h:ik l W f):cW (W.map f)=cW (dN l W):=mY (fun _ hw=>(h.perm hw).length_eq)
theorem ik.bG {l:List Sht}{W:List ByteArray}(h:ik l W f)(ps:List (ByteArray×Int)):jv (W.map f) ps↔jv (dN l W) ps:=
 ⟨jr (fun _ hw _ hp=>(h.perm hw).mem_iff.1 hp),jr (fun _ hw _ hp=>(h.perm hw).mem_iff.2 hp)⟩
theorem ik.cost {l:List Sht}(a:dS l){W:List ByteArray}(h:ik l W f):∀C∈W.map f,∀p∈C,0<=p.2/\p.2<=1000:=by
 intro C hC p hp;obtain⟨w,hw,rfl⟩:=mem_map.1 hC;rcases (((h.each w hw).mem p.1 p.2).1 hp).1 with ⟨_,h1⟩ |⟨s,b,_,_,h1⟩
 .omega
 .have:=a.each s b;omega
theorem ik.pos {l:List Sht}(a:dS l){W:List ByteArray}(h:ik l W f):∀w∈W,1<=(f w).length:=fun w hw=>by
 rw[(h.perm hw).length_eq];exact yI a w
theorem ky:∀{Cs:List (List (ByteArray×Int))},(∀C∈Cs,1<=C.length)->1<=cW Cs/\∀C∈Cs,C.length<=cW Cs
 |[],_=>⟨bW,fun C h=>by cases h⟩
 |D::Cs,h=>by
  obtain⟨h1,b⟩:=ky (Cs:=Cs) (fun C hC=>h C (mem_cons_of_mem _ hC));have a:=h D (mem_cons_self ..);rw[lK];refine⟨Nat.le_trans h1 (Nat.le_mul_of_pos_left _ a),fun C hC=>?_⟩;rcases mem_cons.1 hC with rfl |hC
  .exact Nat.le_mul_of_pos_right _ h1
  .exact Nat.le_trans (b C hC) (Nat.le_mul_of_pos_left _ a)
theorem vi {Cs:List (List (ByteArray×Int))}(h:∀C∈Cs,1<=C.length)(k:Nat):cW (Cs.take k)<=cW Cs:=by
 have h1:=iU (Cs.take k) (Cs.drop k);rw[take_append_drop]at h1;rw[h1];exact Nat.le_mul_of_pos_right _ (ky (fun C hC=>h C (mem_of_mem_drop hC))).1
theorem Ad (Cs:List (List (ByteArray×Int)))(C:List (ByteArray×Int)):cW (Cs++[C])=cW Cs*C.length:=by
 rw[iU];simp[cW]
theorem nG {l:List Sht}{W:List ByteArray}(j:dS l)(i:Plain W)(h:ik l W f)(hp:cW (W.map f)<=64){all:List (List ByteArray×Int)}(c:all.Perm (ep (W.map f) [] 0))(k:all.Pairwise (fun a b=>¬ltX b a)):dq l W all 0:=by
 have e:∀C∈W.map f,(C.map (·.1)).Nodup:=fun C hC=>by
  obtain⟨w,hw,rfl⟩:=mem_map.1 hC;exact(h.each w hw).nodup
 have h1:(all.map (·.1)).Nodup:=(c.map (·.1)).nodup_iff.2 (jd _ _ _ e);have g:all.Pairwise (fun a b=>a.1≠b.1):=pairwise_map.1 h1;refine .inr (.inr ⟨⟨j,i⟩,by rw[<-h.prod];exact hp,rfl,?_,?_,fun x=>?_⟩)
 .refine(k.and g).imp (fun {a b} q=>?_);rcases qu a b with r |r |r
  .exact r
  .exact absurd (congrArg Prod.fst r) q.2
  .exact absurd r q.1
 .rw[c.length_eq,jq,h.prod]
 .rw[c.mem_iff,kn];constructor
  .rintro⟨ps,d,rfl⟩;exact⟨ps,(h.bG ps).1 d,by simp⟩
  .rintro⟨ps,d,rfl⟩;exact⟨ps,(h.bG ps).2 d,by simp⟩
theorem oN:∀(l:List (List UInt8)),(∀p∈l,p≠[])->l.length<=l.flatten.length
 |[],_=>zero_le _
 |p::l,h=>by
  have h1:=length_pos_iff.2 (h p (mem_cons_self ..));have b:=oN l (fun q a=>h q (mem_cons_of_mem _ a));rw[flatten_cons,length_append,length_cons];omega
theorem lC (t:List UInt8):(cA t).flatten.length<=t.length:=by
 rw[xN];exact length_filter_le _ _
theorem nj (t:List UInt8):(cA t).length<=t.length:=Nat.le_trans (oN _ (fun _ hp=>(AF hp).1)) (lC t)
structure fh (S:List ByteArray->Int->Prop)(K:List (List ByteArray×Int)):Prop where
 nodup:(K.map (·.1)).Nodup
 mem:∀t c,(t,c)∈K↔fJ (S t) c
 ex:∀t d,S t d->∃c,fJ (S t) c
def oY (K:List (List ByteArray×Int))(t:List ByteArray)(c:Int)(K':List (List ByteArray×Int)):Prop:=
 (∃(i:Nat) (d:Int),K[i]?=some (t,d)/\K'=K.set i (t,min d c))\/((∀d,(t,d)∉K)/\K'=K++[(t,c)])
theorem fh.start:fh (fun _ _=>False) []:=⟨by simp,fun t c=>⟨fun h=>by simp at h,fun h=>h.1.elim⟩,fun _ _ h=>h.elim⟩
theorem fh.congr {S T:List ByteArray->Int->Prop}{K:List (List ByteArray×Int)}(h:fh S K)(a:∀t c,S t c↔T t c):fh T K:=by
 have e:S=T:=funext fun t=>funext fun c=>propext (a t c);exact e▸h
theorem xF {K:List (List ByteArray×Int)}{i:Nat}{t:List ByteArray}{d:Int}(c:Int)(h:K[i]?=some (t,d)):(K.set i (t,c)).map (·.1)=K.map (·.1):=by
 refine ext_getElem? fun j=>?_;rw[getElem?_map,getElem?_map];by_cases e:i=j
 .subst e;have a:=(List.getElem?_eq_some_iff.1 h).1;rw[getElem?_set_self a,h];rfl
 .rw[getElem?_set_ne e]
theorem ue {K:List (List ByteArray×Int)}(h:(K.map (·.1)).Nodup){i j:Nat}{t:List ByteArray}{d:Int}(f:K[i]?=some (t,c))(g:K[j]?=some (t,d)):i=j:=by
 obtain⟨h1,a⟩:=List.getElem?_eq_some_iff.1 f;obtain⟨e,b⟩:=List.getElem?_eq_some_iff.1 g;refine(getElem_inj (h₀:=by simpa using h1) (h₁:=by simpa using e) h).1 ?_;rw[getElem_map,getElem_map,a,b]
theorem wW {S:Int->Prop}{e:Int}(h:∀d,¬S d):fJ (fun d=>S d\/d=c) e↔e=c:=by
 constructor
 .rintro⟨h1 |h1,_⟩
  .exact absurd h1 (h _)
  .exact h1
 .rintro rfl;exact⟨.inr rfl,fun d a=>a.elim (fun q=>absurd q (h d)) (fun q=>by omega)⟩
theorem fh.put {S:List ByteArray->Int->Prop}{K:List (List ByteArray×Int)}{t:List ByteArray}(h:fh S K)(hp:oY K t c K'):fh (fun u e=>S u e\/(u=t/\e=c)) K':=by
 have n:∀u,u≠t->(fun e=>S u e\/(u=t/\e=c))=S u:=fun u hu=>funext fun e=>propext ⟨fun q=>q.elim id (fun q=>absurd q.1 hu),.inl⟩;have heq:(fun e=>S t e\/(t=t/\e=c))=(fun e=>S t e\/e=c):=funext fun e=>propext ⟨fun q=>q.elim .inl (fun q=> .inr q.2),fun q=>q.elim .inl (fun q=> .inr ⟨rfl,q⟩)⟩;rcases hp with ⟨i,d,o,rfl⟩ |⟨s,rfl⟩
 .have y:fJ (S t) d:=(h.mem t d).1 (mem_of_getElem? o);have hm:fJ (fun e=>S t e\/e=c) (min d c):=rG y;have r:=(List.getElem?_eq_some_iff.1 o).1;refine⟨by rw[xF _ o];exact h.nodup,fun u e=>?_,fun u e hu=>?_⟩
  .by_cases hu:u=t
   .subst hu;rw[heq];constructor
    .intro g;obtain⟨j,f⟩:=getElem?_of_mem g;by_cases k:i=j
     .subst k;rw[getElem?_set_self r]at f;obtain rfl:min d c=e:=by simpa using f
      exact hm
     .rw[getElem?_set_ne k]at f;exact absurd (ue h.nodup o f) k
    .intro hle;have:=hle.uniq hm;subst this;exact mem_of_getElem? (getElem?_set_self r)
   .rw[n u hu,<-h.mem u e];constructor
    .intro g;obtain⟨j,f⟩:=getElem?_of_mem g;by_cases k:i=j
     .subst k;rw[getElem?_set_self r]at f;have:t=u:=by have:=Option.some.inj f;exact(Prod.mk.inj this).1
      exact absurd this.symm hu
     .rw[getElem?_set_ne k]at f;exact mem_of_getElem? f
    .intro g;obtain⟨j,f⟩:=getElem?_of_mem g;have k:i≠j:=fun k=>by
      subst k;rw[o]at f;exact hu (Prod.mk.inj (Option.some.inj f)).1.symm
     exact mem_of_getElem? (by rw[getElem?_set_ne k];exact f)
  .by_cases l:u=t
   .subst l;exact⟨_,by rw[heq];exact hm⟩
   .rw[n u l];exact h.ex u e (hu.elim id (fun q=>absurd q.1 l))
 .have v:∀e,¬S t e:=fun e he=>by
   obtain⟨m,hm⟩:=h.ex t e he;exact s m ((h.mem t m).2 hm)
  refine⟨?_,fun u e=>?_,fun u e hu=>?_⟩
  .rw[map_append];refine nodup_append.2 ⟨h.nodup,by simp,fun a w b x e=>?_⟩;obtain rfl:b=t:=by simpa using x
   obtain⟨⟨p,m⟩,hp,rfl⟩:=mem_map.1 w;exact s m (by rw[<-e];exact hp)
  .by_cases hu:u=t
   .subst hu;rw[heq,wW v,mem_append];constructor
    .rintro(q |q)
     .exact absurd q (s e)
     .simpa using q
    .rintro rfl;exact .inr (by simp)
   .rw[n u hu,<-h.mem u e,mem_append];constructor
    .rintro(q |q)
     .exact q
     .have:u=t/\e=c:=by simpa using q
      exact absurd this.1 hu
    .exact .inl
  .by_cases l:u=t
   .subst l;exact⟨c,by rw[heq];exact(wW v).2 rfl⟩
   .rw[n u l];exact h.ex u e (hu.elim id (fun q=>absurd q.1 l))
theorem BI {K:List (List ByteArray×Int)}(h:(K.map (·.1)).Nodup):K.Nodup:=(pairwise_map.1 h).imp (fun a e=>a (by rw[e]))
def jP (l:List Sht)(w:ByteArray)(K:List (List ByteArray×Int)):List ByteArray->Int->Prop:=fun u e=>∃ts m t d,(ts,m)∈K/\ji l w t d/\u=ts++[t]/\e=m+d
theorem BD {K:List (List ByteArray×Int)}(h:(K.map (·.1)).Nodup){t:List ByteArray}{d:Int}(e:(t,c)∈K)(f:(t,d)∈K):c=d:=by
 obtain⟨i,b⟩:=getElem?_of_mem e;obtain⟨j,a⟩:=getElem?_of_mem f;obtain rfl:=ue h b a;rw[b]at a;exact(Prod.mk.inj (Option.some.inj a)).2
theorem BE {l:List Sht}{K:List (List ByteArray×Int)}(o:(K.map (·.1)).Nodup)(n:fh (jP l w K) K')(u:List ByteArray)(c:Int):
  (u,c)∈K'↔∃ts m t d,(ts,m)∈K/\(t,d)∈chs l w/\u=ts++[t]/\c=m+d:=by
 rw[n.mem];constructor
 .rintro⟨⟨ts,m,t,d,h1,a,rfl,rfl⟩,b⟩;refine⟨ts,m,t,d,h1,((jX l w).mem t d).2 ⟨a,fun f g=>?_⟩,rfl,rfl⟩;have:=b (m+f) ⟨ts,m,t,f,h1,g,rfl,rfl⟩;omega
 .rintro⟨ts,m,t,d,h1,a,rfl,rfl⟩;have i:=((jX l w).mem t d).1 a;refine⟨⟨ts,m,t,d,h1,i.1,rfl,rfl⟩,?_⟩;rintro e ⟨p,m2,t2,d2,k1,k2,j,rfl⟩;obtain⟨rfl,k⟩:=append_inj' j rfl;obtain rfl:t=t2:=by simpa using k
  have:=BD o h1 k1;have:=i.2 d2 k2;omega
noncomputable def mR (l:List Sht)(w:ByteArray)(K:List (List ByteArray×Int)):List (List ByteArray×Int):=K.flatMap (fun x=>(chs l w).map (fun p=>(x.1++[p.1],x.2+p.2)))
theorem uj {l:List Sht}{K:List (List ByteArray×Int)}{u:List ByteArray}:(u,c)∈mR l w K↔∃ts m t d,(ts,m)∈K/\(t,d)∈chs l w/\u=ts++[t]/\c=m+d:=by
 unfold mR;rw[mem_flatMap];constructor
 .rintro⟨⟨ts,m⟩,h1,a⟩;obtain⟨⟨t,d⟩,b,e⟩:=mem_map.1 a;obtain⟨rfl,rfl⟩:=Prod.mk.inj e;exact⟨ts,m,t,d,h1,b,rfl,rfl⟩
 .rintro⟨ts,m,t,d,h1,a,rfl,rfl⟩;exact⟨(ts,m),h1,mem_map.2 ⟨(t,d),a,rfl⟩⟩
theorem qG {β:Type}(f:α->β):∀l:List α,l.flatMap (fun p=>[f p])=l.map f
 |[]=>rfl
 |a::l=>by rw[flatMap_cons,map_cons,qG f l];rfl
theorem pB:∀(Cs:List (List (ByteArray×Int))) (C:List (ByteArray×Int)) (s:List ByteArray) (c:Int),ep (Cs++[C]) s c=(ep Cs s c).flatMap (fun x=>C.map (fun p=>(x.1++[p.1],x.2+p.2)))
 |[],C,s,c=>by
  show C.flatMap (fun p=>ep [] (s++[p.1]) (c+p.2))=[(s,c)].flatMap _;simp only[flatMap_cons,flatMap_nil,append_nil];show C.flatMap (fun p=>[(s++[p.1],c+p.2)])=_;exact qG _ C
 |D::Cs,C,s,c=>by
  show D.flatMap (fun p=>ep (Cs++[C]) (s++[p.1]) (c+p.2))=(D.flatMap (fun p=>ep Cs (s++[p.1]) (c+p.2))).flatMap _;rw[flatMap_assoc];refine congrArg (fun g=>D.flatMap g) (funext fun p=>?_);exact pB Cs C _ _
theorem De {l:List Sht}{V:List ByteArray}{K:List (List ByteArray×Int)}(e:(K.map (·.1)).Nodup)(hK:K.Perm (ep (dN l V) [] 0))(a:fh (jP l w K) K'):K'.Perm (ep (dN l (V++[w])) [] 0):=by
 have h1:K'.Perm (mR l w K):=by
  refine(perm_ext_iff_of_nodup (BI a.nodup) (BI ?_)).2 (fun x=>?_)
  .have b:((ep (dN l (V++[w])) [] 0).map (·.1)).Nodup:=jd _ _ _ (zz l (V++[w]));have d:(mR l w K).Perm (ep (dN l (V++[w])) [] 0):=by
    rw[show dN l (V++[w])=dN l V++[chs l w]from kH V [w],pB];exact hK.flatMap_right _
   exact((d.map (·.1)).nodup_iff).2 b
  .obtain⟨u,c⟩:=x;rw[BE e a,uj]
 refine h1.trans ?_;rw[show dN l (V++[w])=dN l V++[chs l w]from kH V [w],pB];exact hK.flatMap_right _
theorem xw {l:List Sht}(a:dS l)(W:List ByteArray)(k:Nat):cW (dN l (W.take k))<=cW (dN l W):=by
 have h1:dN l W=dN l (W.take k)++dN l (W.drop k):=by rw[<-kH,take_append_drop]
 rw[h1,iU];exact Nat.le_mul_of_pos_right _ (ux a _)
theorem wJ:∀(Cs:List (List (ByteArray×Int))) (s:List ByteArray) (c:Int),(ep Cs s c).length=cW Cs
 |[],_,_=>rfl
 |C::Cs,s,c=>by
  show(C.flatMap (fun p=>ep Cs (s++[p.1]) (c+p.2))).length=C.length*cW Cs;rw[length_flatMap];have:∀D:List (ByteArray×Int),(D.map (fun p=>(ep Cs (s++[p.1]) (c+p.2)).length)).sum=D.length*cW Cs:=fun D=>by
   induction D with
   |nil=>simp
   |cons p D a=>rw[map_cons,sum_cons,a,wJ Cs,length_cons,Nat.add_mul];omega
  exact this C
theorem Dd {l:List Sht}{W:List ByteArray}(d:dS l)(c:Plain W){K all:List (List ByteArray×Int)}(hK:K.Perm (ep (dN l W) [] 0))(g:K.length<=64)(hp:all.Perm K)(e:all.Pairwise (fun a b=>¬ltX b a)):dq l W all 0:=by
 have hlen:K.length=cW (dN l W):=by rw[hK.length_eq,wJ]
 exact nG d c (f:=chs l) ⟨fun w _=>jX l w⟩ (by show cW (dN l W)<=64;omega) (hp.trans hK) e
end
end Go.Proofs.YtmhdgddjeadjjaaGreatDoor
