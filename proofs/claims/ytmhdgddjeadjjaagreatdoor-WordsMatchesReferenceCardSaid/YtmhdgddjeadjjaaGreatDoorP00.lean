/- A part of the proof: what the claim reaches. -/
import Derived.Test.YtmhdgddjeadjjaaGreatDoorProg
import Derived.Laws.EntriesVeiled
import Derived.RangeFuncNested
import Derived.RangeFuncBound
import Derived.Shelf.RegionOpen
import Derived.OwnWalkIn
import Derived.TacticsInMore
import Derived.LoopNIn
import Derived.LoopIn
import Derived.WalkSpells
import Derived.WalkLawsBesides
import Derived.Lib.Hide
import Derived.Deep.RegionHeld3
import Derived.StillTailTactics
import Derived.Deep.DeepCutAuto
import Derived.Deep.CutBlock
import Derived.Shelf.GgClosure.Gives
import Derived.Shelf.GgClosure.StringsRunes
import Derived.Laws.CopyOwn
import Derived.Lib.SmallJoins
import Derived.Sort.KeysCollected
import Derived.Maps.RangeRun
import Derived.Deep.Quiet
import Derived.Lib.SlicesCompact
import Derived.Deep.AppendLies
namespace Go.Proofs.YtmhdgddjeadjjaaGreatDoor
open _root_.List Go.Lib _root_.Nat Go.World _root_.Int Go.Proofs.Tryz
theorem bP {p:Prop}(h:p):Go.RowKit.Hid p:=h
theorem bQ {p q:Prop}(a:p)(b:q):Go.RowKit.Hid (p/\q):=⟨a,b⟩
theorem bS {p q r:Prop}(a:p)(b:q)(c:r):Go.RowKit.Hid (p/\q/\r):=⟨a,b,c⟩
theorem bT {p q r s:Prop}(a:p)(b:q)(c:r)(d:s):Go.RowKit.Hid (p/\q/\r/\s):=⟨a,b,c,d⟩
theorem bU {p q r s t:Prop}(a:p)(b:q)(c:r)(d:s)(e:t):Go.RowKit.Hid (p/\q/\r/\s/\t):=⟨a,b,c,d,e⟩
theorem bV {p q r s t u:Prop}(a:p)(b:q)(c:r)(d:s)(e:t)(f:u):Go.RowKit.Hid (p/\q/\r/\s/\t/\u):=⟨a,b,c,d,e,f⟩
theorem bW {n:Nat}:n<=n:=Nat.le_refl _
theorem bX {n:Nat}{w:World}:Go.RowKit.Below n w w:=Go.RowKit.Below.refl _ _
theorem bY {p:Prop}[Decidable p](h:¬p:=by omega):decide p=false:=decide_eq_false h
theorem bZ {p:Prop}[Decidable p](h:p:=by omega):decide p=true:=decide_eq_true h
section
open Go
structure Arc where
 frm:Int
 inp:Int
 out:Int
 «to»:Int
instance:DecidableEq Arc:=fun a b=>
 if h:a.frm=b.frm/\a.inp=b.inp/\a.out=b.out/\a.to=b.to then
  .isTrue (by obtain⟨h1,h2,h3,h4⟩:=h;cases a;cases b;simp only at h1 h2 h3 h4;subst h1 h2 h3 h4;rfl)
 else .isFalse (fun e=>h (by subst e;exact⟨rfl,rfl,rfl,rfl⟩))
def Arc.lt (a b:Arc):Prop:=a.frm<b.frm\/a.frm=b.frm/\(a.inp<b.inp\/a.inp=b.inp/\(a.out<b.out\/a.out=b.out/\a.to<b.to))
theorem Arc.lt_irrefl (a:Arc):¬a.lt a:=by unfold Arc.lt;omega
theorem Arc.lt_trans {a b c:Arc}(h:a.lt b)(d:b.lt c):a.lt c:=by unfold Arc.lt at *;omega
theorem Arc.lt_asymm {a b:Arc}(h:a.lt b):¬b.lt a:=by unfold Arc.lt at *;omega
theorem Arc.aD {a b:Arc}(h:¬a.lt b)(c:¬b.lt a):a=b:=by
 obtain⟨d,a2,a3,a4⟩:=a;obtain⟨e,f,g,i⟩:=b;simp only[Arc.lt]at h c;simp only[Arc.mk.injEq];omega
def cR (l:List Arc):Prop:=l.Pairwise Arc.lt
theorem cR.ext {l m:List Arc}(n:cR l)(hm:cR m)(h:∀x,x∈l↔x∈m):l=m:=by
 induction l generalizing m with
 |nil=>
  cases m with
  |nil=>rfl
  |cons b m=>exact absurd ((h b).2 (by simp)) (by simp)
 |cons a l o=>
  cases m with
  |nil=>exact absurd ((h a).1 (by simp)) (by simp)
  |cons b m=>
   obtain⟨d,i⟩:=pairwise_cons.1 n;obtain⟨g,j⟩:=pairwise_cons.1 hm;have f:a=b:=by
    rcases mem_cons.1 ((h a).1 (by simp))with e |h1
    .exact e
    .rcases mem_cons.1 ((h b).2 (by simp))with e |k
     .exact e.symm
     .exact absurd (g _ h1) (Arc.lt_asymm (d _ k))
   subst f;refine congrArg (a::·) (o i j (fun x=>?_));constructor
   .intro c;rcases mem_cons.1 ((h x).1 (mem_cons_of_mem _ c))with rfl |h1
    .exact absurd (d _ c) (Arc.lt_irrefl _)
    .exact h1
   .intro c;rcases mem_cons.1 ((h x).2 (mem_cons_of_mem _ c))with rfl |h1
    .exact absurd (g _ c) (Arc.lt_irrefl _)
    .exact h1
theorem cR.nodup {l:List Arc}(h:cR l):l.Nodup:=by
 unfold cR at h;exact h.imp fun a e=>by subst e;exact Arc.lt_irrefl _ a
theorem cR.put {S:List Arc}(h:cR S)(x:Arc)(k:Nat)(hk:k<=S.length)(l:∀j y,k<=j->S[j]?=some y->x.lt y)(hle:∀y,0<k->S[k-1]?=some y->y.lt x):
  cR (S.take k++x::S.drop k):=by
 refine pairwise_append.2 ⟨h.sublist (take_sublist _ _),pairwise_cons.2 ⟨fun y q=>?_,h.sublist (drop_sublist _ _)⟩,fun a p b m=>?_⟩
 .obtain⟨i,c⟩:=mem_iff_getElem?.1 q;rw[getElem?_drop]at c;exact l _ _ (by omega) c
 .obtain⟨i,c⟩:=mem_iff_getElem?.1 p;rw[getElem?_take]at c;split at c
  .rename_i r;have g:a.lt x:=by
    have f:k-1<S.length:=by omega
    have d:=hle S[k-1] (by omega) (getElem?_eq_getElem f);rcases Nat.lt_or_ge i (k-1)with h1 |h1
    .obtain⟨n,rfl⟩:=List.getElem?_eq_some_iff.1 c;exact Arc.lt_trans (pairwise_iff_getElem.1 h i (k-1) n f h1) d
    .have e:i=k-1:=by omega
     subst e;rw[getElem?_eq_getElem f]at c;obtain rfl:=Option.some.inj c;exact d
   rcases mem_cons.1 m with rfl |m
   .exact g
   .obtain⟨j,o⟩:=mem_iff_getElem?.1 m;rw[getElem?_drop]at o;exact Arc.lt_trans g (l _ _ (by omega) o)
  .cases c
def Arc.cells (a:Arc):List Value:=[.int .i64 a.frm,.int .i64 a.inp,.int .i64 a.out,.int .i64 a.to]
def flat (l:List Arc):List Value:=l.flatMap Arc.cells
theorem fR (a b:List Arc):flat (a++b)=flat a++flat b:=by simp[flat]
theorem iO (x:Arc)(l:List Arc):flat (x::l)= .int .i64 x.frm:: .int .i64 x.inp:: .int .i64 x.out:: .int .i64 x.to::flat l:=by simp[flat,Arc.cells]
theorem cT (l:List Arc):(flat l).length=l.length*4:=by
 induction l with
 |nil=>rfl
 |cons x l a=>rw[iO];simp[a];omega
theorem wN (l:List Arc)(i:Nat)(x:Arc)(h:l[i]?=some x):(flat l)[i*4]?=some (.int .i64 x.frm)/\(flat l)[i*4+ 1]?=some (.int .i64 x.inp)/\(flat l)[i*4+2]?=some (.int .i64 x.out)/\(flat l)[i*4+3]?=some (.int .i64 x.to):=by
 induction l generalizing i with
 |nil=>simp at h
 |cons y l a=>
  cases i with
  |zero=>simp at h;subst h;simp[iO]
  |succ i=>
   rw[getElem?_cons_succ]at h;have:=a i h;rw[iO,show(i+1)*4=i*4+4 from by omega];simpa using this
theorem C0 (l:List Arc)(i:Nat)(x:Arc)(h:i<l.length):
  ((((flat l).set (i*4) (.int .i64 x.frm)).set (i*4+1) (.int .i64 x.inp)).set (i*4+2) (.int .i64 x.out)).set (i*4+3) (.int .i64 x.to)=flat (l.set i x):=by
 induction l generalizing i with
 |nil=>simp at h
 |cons y l a=>
  cases i with
  |zero=>simp[iO]
  |succ i=>
   have:=a i (by simpa using h);rw[set_cons_succ,iO,iO,<-this,show(i+1)*4=i*4+4 from by omega];simp
end
section
def vz (L:List (List UInt8)):Nat->List UInt8->Prop
 |0,_=>False
 |n+1,s=>∃l∈L,s<+:l\/∃r,s=l++r/\vz L n r
def eT (L:List (List UInt8))(s:List UInt8):Prop:=∃n,vz L n s
theorem fp (L:List (List UInt8))(s:List UInt8):eT L s↔∃l∈L,s<+:l\/∃r,s=l++r/\eT L r:=by
 constructor
 .rintro⟨n,h⟩;cases n with
  |zero=>exact h.elim
  |succ n=>
   obtain⟨l,a,h |⟨r,e,h⟩⟩:=h
   .exact⟨l,a,.inl h⟩
   .exact⟨l,a,.inr ⟨r,e,n,h⟩⟩
 .rintro⟨l,a,h |⟨r,e,n,h⟩⟩
  .exact⟨1,l,a,.inl h⟩
  .exact⟨n+1,l,a,.inr ⟨r,e,h⟩⟩
theorem qL {l s:List UInt8}(h:l<+:s):s=l++s.drop l.length:=by
 obtain⟨r,rfl⟩:=h;simp
theorem ia {l s r:List UInt8}:s=l++r↔l<+:s/\r=s.drop l.length:=by
 constructor
 .rintro rfl;exact⟨⟨r,rfl⟩,by simp⟩
 .rintro⟨h,rfl⟩;exact qL h
def atN (L:List (List UInt8))(t:List UInt8):Nat->Option Nat
 |0=>none
 |n+1=>if n+1<=t.length/\t.take (n+1)∈L then some (L.idxOf (t.take (n+1))) else atN L t n
def atF (L:List (List UInt8))(t:List UInt8):Option Nat:=atN L t 3
def atI (L:List (List UInt8))(t:List UInt8):Int:=match atF L t with
 |none=> -1
 |some k=>k
theorem kD {l t:List UInt8}(h:l<+:t):t.take l.length=l:=by
 obtain⟨r,rfl⟩:=h;simp
theorem CG (L:List (List UInt8))(t:List UInt8)(n:Nat)(h:∀l∈L,¬l<+:t):atN L t n=none:=by
 induction n with
 |zero=>rfl
 |succ n b=>rw[atN,if_neg (fun a=>h _ a.2 (take_prefix _ _)),b]
theorem idxOf_getElem {L:List (List UInt8)}(b:L.Nodup){j:Nat}{l:List UInt8}(h:L[j]?=some l):L.idxOf l=j:=by
 induction L generalizing j with
 |nil=>simp at h
 |cons a L d=>
  cases j with
  |zero=>simp at h;subst h;simp
  |succ j=>
   rw[getElem?_cons_succ]at h;have hm:l∈L:=mem_of_getElem? h;have c:a≠l:=fun e=>(nodup_cons.1 b).1 (e▸hm);rw[idxOf_cons,show(a==l)=false from by simpa using c,d (nodup_cons.1 b).2 h];rfl
theorem vN (L:List (List UInt8))(d:L.Nodup)(t:List UInt8)(j:Nat)(l:List UInt8)(b:L[j]?=some l)(hp:l<+:t)(a:∀m∈L,m<+:t->m.length<=l.length)(h1:1<=l.length):
  ∀n,l.length<=n->atN L t n=some j:=by
 intro n;induction n with
 |zero=>intro h;omega
 |succ n g=>
  intro h;rw[atN];by_cases e:l.length=n+1
  .have f:t.take (n+1)=l:=by rw[<-e];exact kD hp
   have hlen:n+1<=t.length:=by rw[<-e];exact hp.length_le
   rw[f,if_pos ⟨hlen,mem_of_getElem? b⟩,idxOf_getElem d b]
  .rw[if_neg,g (by omega)];rintro⟨i,c⟩;have:=a _ c (take_prefix _ _);rw[length_take]at this;omega
theorem lZ {L:List (List UInt8)}{t:List UInt8}{n k:Nat}(h:atN L t n=some k):∃l,L[k]?=some l/\l<+:t/\1<=l.length/\l.length<=n:=by
 induction n with
 |zero=>cases h
 |succ n e=>
  rw[atN]at h;split at h
  .rename_i d;obtain rfl:=Option.some.inj h;have a:=idxOf_lt_length_of_mem d.2;refine⟨t.take (n+1),?_,take_prefix _ _,by rw[length_take];omega,by rw[length_take];omega⟩;rw[getElem?_eq_getElem a,getElem_idxOf]
  .obtain⟨l,h1,b,c,f⟩:=e h;exact⟨l,h1,b,c,by omega⟩
structure Rd where
 letters:List Int
 err:Int
 off:Nat
def dc (L:List (List UInt8)):Nat->List UInt8->Nat->List Int->Rd
 |0,t,o,acc=>if t=[] then ⟨acc,0,0⟩ else match atF L t with
  |none=>⟨[],3,o⟩
  |some _=>⟨[],2,o⟩
 |f+1,t,o,acc=>if t=[] then ⟨acc,0,0⟩ else match atF L t with
  |none=>⟨[],3,o⟩
  |some k=>dc L f (t.drop ((L[k]?.getD []).length)) (o+(L[k]?.getD []).length) (acc++[(k:Int)])
def cB (L:List (List UInt8))(t:List UInt8):Rd:=if t=[] then ⟨[],6,0⟩ else dc L 24 t 0 []
def dv (l:List UInt8)(i:Nat):Int:=match l[i]? with
 |some c=>c.toNat
 |none=>0
structure db where
 src:List UInt8
 dst:List UInt8
 nxt:List UInt8
 fin:Bool
def db.n (x:db):Nat:=max x.src.length x.dst.length
def cQ:Nat->List db->List Nat
 |_,[]=>[]
 |s,x::r=>if x.nxt=[] then (if x.fin then 2 else 1)::cQ s r else s::cQ (s+1) r
def cK:Nat->List db->Nat
 |s,[]=>s
 |s,x::r=>if x.nxt=[] then cK s r else cK (s+1) r
def fQ (L:List (List UInt8))(t:List UInt8):Int:=(cB L t).letters[0]?.getD (-1)
def jT (L:List (List UInt8))(x o:db):Bool:=(cB L o.nxt).letters.contains (fQ L x.src)
def di (L:List (List UInt8))(x:db):List db->List Nat->List Nat
 |o::r,s::t=>if jT L x o then s::di L x r t else di L x r t
 |_,_=>[]
def jb (x:db)(base lead j:Nat):Int:=if j+1=x.n then (lead:Int) else (base:Int)+j
def eI (x:db)(base lead j:Nat)(f:Int):Arc:=⟨f,dv x.src j,dv x.dst j,jb x base lead j⟩
def gG (x:db)(base lead:Nat)(a:List Nat):List Arc:=
 (a.map fun s:Nat=>eI x base lead 0 (s:Int))++(range (x.n-1)).map fun j:Nat=>eI x base lead (j+1) ((base:Int)+(j:Int))
def dH (L:List (List UInt8))(all:List db)(leads:List Nat):Nat->List db->List Nat->List Arc
 |base,x::r,l::t=>gG x base l (0::1::di L x all leads)++dH L all leads (base+x.n-1) r t
 |_,_,_=>[]
def cM:Nat->List db->Nat
 |base,[]=>base
 |base,x::r=>cM (base+x.n-1) r
def eX (L:List (List UInt8))(l:List db):List Arc:=dH L l (cQ 3 l) (cK 3 l) l (cQ 3 l)
def dp (l:List db):Nat:=cM (cK 3 l) l
theorem eD (s:Nat)(l:List db):(cQ s l).length=l.length:=by
 induction l generalizing s with
 |nil=>rfl
 |cons x r a=>rw[cQ];split<;>simp[a]
theorem fW (s:Nat)(l:List db)(x:db):cQ s (l++[x])=cQ s l++[if x.nxt=[] then (if x.fin then 2 else 1) else cK s l]:=by
 induction l generalizing s with
 |nil=>simp only[nil_append,cQ,cK];split<;>rfl
 |cons y l a=>simp only[cons_append,cQ,cK];split<;>simp[*]
theorem fB (s:Nat)(l:List db)(x:db):cK s (l++[x])=if x.nxt=[] then cK s l else cK s l+1:=by
 induction l generalizing s with
 |nil=>simp only[nil_append,cK]
 |cons y l a=>simp only[cons_append,cK];split<;>simp[a]
theorem jA (s:Nat)(l:List db):cK s l<=s+l.length:=by
 induction l generalizing s with
 |nil=>simp[cK]
 |cons y l a=>
  rw[cK];split
  .have:=a s;simp;omega
  .have:=a (s+1);simp;omega
theorem vd (s:Nat)(l:List db):cQ s (l.take l.length)=cQ s l:=by rw[take_length]
theorem pz (s:Nat)(l:List db)(x:db):cM s (l++[x])=cM s l+x.n-1:=by
 induction l generalizing s with
 |nil=>rfl
 |cons y l a=>simp only[cons_append,cM,a]
theorem sj (s:Nat)(l:List db)(a:∀x∈l,x.n<=9):cM s l<=s+l.length*9:=by
 induction l generalizing s with
 |nil=>simp[cM]
 |cons y l c=>
  have h1:=a y (by simp);have d:=c (s+y.n-1) (fun x b=>a x (mem_cons_of_mem _ b));rw[cM,length_cons];omega
theorem oH (L:List (List UInt8))(all:List db)(leads:List Nat)(s:Nat)(l:List db)(t:List Nat)(x:db)(y:Nat)(h:l.length=t.length):
  dH L all leads s (l++[x]) (t++[y])=dH L all leads s l t++gG x (cM s l) y (0::1::di L x all leads):=by
 induction l generalizing s t with
 |nil=>
  cases t with
  |nil=>simp[dH,cM]
  |cons a t=>simp at h
 |cons z l b=>
  cases t with
  |nil=>simp at h
  |cons a t=>simp only[cons_append,dH,cM,b _ _ (by simpa using h),append_assoc]
theorem iE (L:List (List UInt8))(x:db)(l:List db)(t:List Nat):(di L x l t).length<=l.length:=by
 induction l generalizing t with
 |nil=>simp[di]
 |cons y l b=>
  cases t with
  |nil=>simp[di]
  |cons a t=>rw[di];have:=b t;split<;>simp<;>omega
theorem oL (L:List (List UInt8))(x:db)(l:List db)(t:List Nat)(o:db)(s:Nat)(h:l.length=t.length):
  di L x (l++[o]) (t++[s])=di L x l t++if jT L x o then [s] else []:=by
 induction l generalizing t with
 |nil=>
  cases t with
  |nil=>simp only[nil_append,di]
  |cons a t=>simp at h
 |cons z l b=>
  cases t with
  |nil=>simp at h
  |cons a t=>simp only[cons_append,di,b _ (by simpa using h)];split<;>rfl
theorem sR (x:db)(b l:Nat)(s:List Nat):(gG x b l s).length=s.length+(x.n-1):=by simp[gG]
theorem jS (L:List (List UInt8))(all:List db)(leads:List Nat)(s:Nat)(l:List db)(t:List Nat)(b:∀x∈l,x.n<=9):(dH L all leads s l t).length<=l.length*(all.length+10):=by
 induction l generalizing s t with
 |nil=>simp[dH]
 |cons z l d=>
  cases t with
  |nil=>simp[dH]
  |cons a t=>
   have h1:=b z (by simp);have e:=d (s+z.n-1) t (fun x c=>b x (mem_cons_of_mem _ c));have f:=iE L z all leads;rw[dH,length_append,sR];simp only[length_cons];rw[Nat.add_mul,Nat.one_mul];omega
end
section
open Go Classical
section
variable {L : List (List UInt8)} {all : List db}
end
end
section
open Go.RowKit
theorem sS {P:Program}(w:World)(base:Nat)(t ty e:TypeId)(i:TypeInfo)(z:Value)(size bytes:Nat)(D:P.underlying t=some (.slice e))(B:P.info? e=some i)(J:i.zero=some z)
  (o:i.size=size)(s:i.bytes=bytes)(G:z.cells.size=size)(F:0<size)(v:Value)(n:Nat)(xs:List Value)(l:w.ownsRow base e size v n xs)
  (a:Addr)(m c:Nat)(news:List Value)(x:news.length=m*size)(d:∀j u,news[j]?=some u->w.cell? (a.add j)=some u)(h1:∀u∈news,u.oneCell'=true)
  (E:n+m<=maxLen)(f:(n+m)*bytes<=140737488355328)(A:base<=w.heap.size):
  ∃v' w',(Builtin.append_ #[t,t] ty #[v,.slice (some a) m c]).run P w= .ok v' w'/\w'.ownsRow base e size v' (n+m) (xs++news)/\
   ((∃g cap,v= .slice (some ⟨g,0,none⟩) n cap/\v'= .slice (some ⟨g,0,none⟩) (n+m) cap/\w.grownBy w' (some g))\/((∀g,v'.ownBlock=some g->w.heap.size<=g)/\w.grownBy w' none)):=by
 obtain⟨v',w',C,hO,R, -⟩:=run_append_own (P:=P) w base t ty e i z size bytes D B J o s G F v n xs l a m c news x d h1 E f A;refine⟨v',w',C,hO,?_⟩;have p:=l;rcases l.2 with ⟨rfl,rfl⟩ |⟨g,cap,cur,rfl,T,I,V,U,N,Q⟩
 .right;have S:xs=[]:=eq_nil_of_length_eq_zero (by simpa using l.1);subst S;obtain⟨v2,X,b,M,L, -⟩:=run_append_own (P:=P) w w.heap.size t ty e i z size bytes D B J o s G F (.slice none 0 0) 0 [] (ownsRow_nil _ _ _ _) a m c news x d h1 E f bW;rw[C]at b;injection b with r y;subst r;subst y;exact⟨fun g I=>(M.lt g I).1,L⟩
 .subst o;by_cases q:n+m<=cap
  .left;have H:n*i.size+news.length<=cur.size:=by rw[x,N,<-Nat.add_mul];exact mul_le_mul_right _ q
   have b:=run_append_room (P:=P) w t ty e i D B g n cap cur I a m c news x d h1 q H;rw[C]at b;injection b with r y;subst r;exact⟨g,cap,rfl,rfl,R⟩
  .right;have holds:∀j u,xs[j]?=some u->w.cell? ((⟨g,0,none⟩:Addr).add j)=some u:=p.cells (g:=g) rfl;have b:=run_append_grow (P:=P) w t ty e i z D B J ⟨g,0,none⟩ n cap xs p.1 holds a m c news x d (by omega) (by unfold maxLen at *;omega) (growslice_fits (by omega) (by rw[s];exact f));rw[C]at b;injection b with r y;subst r;subst y;refine⟨fun g' O=>?_,rfl,rfl,rfl,by simp,fun k hk _=>Below.heap_alloc w.drew _ k hk⟩;simp[Value.ownBlock]at O;omega
theorem rO {P:Program}(w:World){ops:Array Oper}{o:Oper}{a:Act}{K:Act->World->Prop}{Q:Exit->Act->World->Prop}{E:Prop}(y:o.guard=none)(s x:Operand)(t:TypeId)
  (H:o.op= .call { callee:= .builtin .append,args:= #[s,x],argTypes:= #[t,t] })
  (base:Nat)(e:TypeId)(i:TypeInfo)(z:Value)(size bytes:Nat)(L:P.underlying t=some (.slice e))(F:P.info? e=some i)(N:i.zero=some z)
  (k:i.size=size)(r:i.bytes=bytes)(B:z.cells.size=size)(A:0<size)
  (v:Value)(n:Nat)(xs:List Value)(J:a.eval s=v)(p:w.ownsRow base e size v n xs)
  (l:Addr)(m c:Nat)(news:List Value)(M:a.eval x= .slice (some l) m c)(G:news.length=m*size)(f:∀j u,news[j]?=some u->w.cell? (l.add j)=some u)(h1:∀u∈news,u.oneCell'=true)
  (q:n+m<=maxLen)(b:(n+m)*bytes<=140737488355328)(d:base<=w.heap.size)
  (h:∀v' w',w'.ownsRow base e size v' (n+m) (xs++news)->((∃g cap,v= .slice (some ⟨g,0,none⟩) n cap/\v'= .slice (some ⟨g,0,none⟩) (n+m) cap/\w.grownBy w' (some g))\/((∀g,v'.ownBlock=some g->w.heap.size<=g)/\w.grownBy w' none))->K (a.put o.dst v') w'):
  if Region.wanted o (yielded ops a.tmps)=true then Oper.wp P o a w K Q else E:=by
 have hw:Region.wanted o (yielded ops a.tmps)=true:=by simp[Region.wanted,y]
 rw[if_pos hw];obtain⟨v',w',I,C,D⟩:=sS (P:=P) w base t o.type e i z size bytes L F N k r B A v n xs p l m c news G f h1 q b d;unfold Oper.wp execOp;simp only[H,resolve,invoke,builtin,Sem.run_bind,Sem.run_pure,Result.andThen_ok,map_toArray,map_cons,map_nil,J,M,I];exact h v' w' C D
end
end Go.Proofs.YtmhdgddjeadjjaaGreatDoor
