/- A part of the proof: what the claim reaches. -/
import Derived.Test.YtmhdgddjeadjjaaGreatDoorP09
namespace Go.Proofs.YtmhdgddjeadjjaaGreatDoor
open _root_.List Go.Lib _root_.Nat Go.World _root_.Int Go.Proofs.Tryz
variable {a x:Arc}{c:Int}{fs:List Plc}{b j:Nat}{q:Plc}{w:World}
section
open Go.RowKit Classical
set_option maxRecDepth 100000
set_option maxHeartbeats 4000000
theorem qM (s:ByteArray)(w:World)(n:s.size<=maxLen):
  Calls prog 137 #[.string s] w fun e w'=>e= .returned (.bool (decide (eH s 1 3)))/\w=w':=by
 unfold maxLen at n;go_enter func137,ntmps137;go_wp2;go_loop [3] (fun i=>∃j:Nat,j<=s.size/\i= .int .i64 j/\((bl s).take j).all eV=true) (fun i=>s.size-(intOf i).toNat);case atStart=>exact⟨0,zero_le _,rfl,rfl⟩
 case round=>
  obtain⟨j,o,rfl,c⟩:=hrel;have b:=bP c;clear c;by_cases l:j<s.size
  .have k:=bP (dU _ j l);have d:eV s[j]=false->¬eH s 1 3:=fun hp m=>by
    have:=m.1;rw[iq,jR _ _ j _ k.out hp]at this;cases this
   have a:=bP d;clear d;go_wp2
   .have h1:(((s[j].toNat:Int)<33\/(126:Int)<(s[j].toNat:Int))\/((s[j].toNat:Int)==34)=true):=by assumption
    go_ret;exact⟨cj (a.out (gA (by rcases h1 with (h |h) |h<;>simp[h]))),rfl⟩
   .have h1:(((33:Int)<=(s[j].toNat:Int)/\(s[j].toNat:Int)<=126)/\((s[j].toNat:Int)==34)=false):=by assumption
    refine⟨⟨j+1,by omega,by go_num,?_⟩,by simp[intOf];omega⟩;rw[jx _ _ j _ k.out,b.out,oo h1.1.1 h1.1.2 h1.2];rfl
   .have h1:(126:Int)<(s[j].toNat:Int):=by assumption
    go_ret;exact⟨cj (a.out (gA (.inr (.inl h1)))),rfl⟩
   .have h1:(s[j].toNat:Int)<33:=by assumption
    go_ret;exact⟨cj (a.out (gA (.inl h1))),rfl⟩
  .have f:iq (bl s)=true:=by
    have:=b.out;rwa [take_of_length_le (by rw[b9];omega)]at this
   have g:=bP f;clear f;go_wp2;all_goals
    go_ret;refine⟨fy ?_,rfl⟩;simp[eH,g.out];try omega
theorem ly (s p:ByteArray):hasPrefix s.data.toList p.data.toList=decide (bl p<+:bl s):=by
 unfold hasPrefix bl;rw[Bool.eq_iff_iff,isPrefixOf_iff_prefix];simp
theorem uX (s p:ByteArray)(h:bl p<+:bl s)(w:World):
  Calls prog 135 #[.string s,.string p] w fun e w'=>e= .returned (.tuple #[.string (s.extract p.size s.size),.bool true])/\w'=w:=
 (strings_CutPrefix s p w).mono fun e w' a=>by
  have h1:hasPrefix s.data.toList p.data.toList=true:=by rw[ly];simpa using h
  refine⟨a.1.trans ?_,a.2⟩;rw[h1];have b:(⟨(trimPrefix s.data.toList p.data.toList).toArray⟩:ByteArray)=s.extract p.size s.size:=by
   refine cY ?_;unfold bl;rw[extract_data,take_of_length_le (by simp),trimPrefix,if_pos h1];simp
  rw[b]
theorem we (s p:ByteArray)(h:¬bl p<+:bl s)(w:World):
  Calls prog 135 #[.string s,.string p] w fun e w'=>e= .returned (.tuple #[.string s,.bool false])/\w'=w:=
 (strings_CutPrefix s p w).mono fun e w' a=>by
  have h1:hasPrefix s.data.toList p.data.toList=false:=by rw[ly];simpa using h
  refine⟨a.1.trans ?_,a.2⟩;rw[h1];have b:(⟨(trimPrefix s.data.toList p.data.toList).toArray⟩:ByteArray)=s:=by
   refine cY ?_;unfold bl;rw[trimPrefix,if_neg (by rw[h1];simp)]
  rw[b]
theorem oI (s p:ByteArray)(w:World):
  Calls prog 134 #[.string s,.string p] w fun e w'=>e= .returned (.bool (decide (bl p<+:bl s)))/\w'=w:=
 (strings_HasPrefix s p w).mono fun e w' a=>⟨a.1.trans (by rw[ly]),a.2⟩
structure ir (w:World)(b:Nat)(A:cr):Prop where
 rows:∃la lc sa sc,Box w b [.string A.name,.slice la A.letters.length lc,.slice sa A.small.length sc]/\b8 w b la (strs A.letters)/\b8 w b sa (nums A.small)
theorem ir.below {w':World}{B:Nat}{A:cr}(h:ir w b A)(a:Below B w w')(e:b<B):ir w' b A:=by
 obtain⟨f,lc,g,i,h1,c,d⟩:=h;exact⟨f,lc,g,i,h1.below a e,c.below a (by omega),d.below a (by omega)⟩
theorem ir.drewN {A:cr}(h:ir w b A)(n:Nat):ir (w.drewN n) b A:=⟨h.rows⟩
def fZ (a b:Nat):Value:= .func (.func 133) #[] #[.pointer (some ⟨a,0,none⟩),.pointer (some ⟨b,0,none⟩)]
theorem yl (A:cr)(v:∀l∈A.letters,1<=l.size)(hlen:A.letters.length<=maxLen)(f g:Nat):∀(n:Nat) (s:ByteArray),s.size<n->s.size<=maxLen->∀(w:World),ir w f A->Box w g [fZ f g]->
  Calls prog 133 #[.string s,.pointer (some ⟨f,0,none⟩),.pointer (some ⟨g,0,none⟩)] w fun e w'=>e= .returned (.bool (decide (eT A.bls (bl s))))/\w'=w:=by
 intro n;induction n with
 |zero=>intro s h;omega
 |succ n E=>
 intro s R C w h c;have L:=h;obtain⟨O,lc,T,U,u,M,Q⟩:=h;have G:=bP E;clear E;have P:=C;unfold maxLen at C hlen;have c1:w.cell? ⟨f,1,none⟩=some (.slice O A.letters.length lc):=u 1 _ rfl;have I:w.cell? ⟨g,0,none⟩=some (fZ f g):=c 0 _ rfl;unfold fZ at I;go_enter func133,ntmps133;go_wp2_with fail;go_loop [12] (fun i=>∃k:Nat,k<=A.letters.length/\i= .int .i64 k/\(∀i l,i<k->A.letters[i]?=some l->¬(bl s<+:bl l\/bl l<+:bl s/\eT A.bls ((bl s).drop l.size)))) (fun i=>A.letters.length-(intOf i).toNat);case atStart=>exact⟨0,zero_le _,rfl,by simp⟩
 case round=>
  obtain⟨k,hk,rfl,j⟩:=hrel;have H:=bP j;clear j;by_cases d:k<A.letters.length
  .have p:bl A.letters[k]∈A.bls:=mem_map_of_mem (getElem_mem d);obtain⟨b,off,rfl,S,z⟩:=M.strs (by omega);have c3:=z k d;clear z;by_cases h1:bl s<+:bl A.letters[k]
   .have H1:=bP h1;go_wp2_with fail;refine(oI _ _ _).mono ?_;rintro e w' ⟨rfl,rfl⟩;rw[decide_eq_true h1];clear h1;go_wp2_with fail;go_ret;exact⟨dP ((fp _ _).2 ⟨_,p,.inl H1.out⟩),rfl⟩
   .have H1:=bP h1;go_wp2_with fail;refine(oI _ _ _).mono ?_;rintro e w' ⟨rfl,rfl⟩;rw[decide_eq_false h1];clear h1;by_cases hp:bl A.letters[k]<+:bl s
    .have hle:A.letters[k].size<=s.size:=by have:=hp.length_le;rwa [b9,b9]at this
     have F:=v _ (getElem_mem d);have N:(s.extract A.letters[k].size s.size).size<n:=by simp;omega
     have D:(s.extract A.letters[k].size s.size).size<=maxLen:=by unfold maxLen;simp;omega
     have q:bl (s.extract A.letters[k].size s.size)=(bl s).drop A.letters[k].size:=by
      unfold bl;rw[extract_data,take_of_length_le (by simp)]
     have x:=bP q;have t:=bP hp;go_wp2_with fail;refine(uX _ _ hp _).mono ?_;rintro e w' ⟨rfl,rfl⟩;clear q hp;go_wp2_with fail;refine(G.out _ N D _ L c).mono ?_;rintro e V ⟨rfl,rfl⟩;rw[x.out];by_cases c:eT A.bls ((bl s).drop A.letters[k].size)
     .rw[decide_eq_true c];go_wp2;go_ret;exact⟨dP ((fp _ _).2 ⟨_,p,.inr ⟨_,ia.2 ⟨t.out,rfl⟩,by rw[b9];exact c⟩⟩),rfl⟩
     .rw[decide_eq_false c];go_wp2;refine⟨⟨k+1,by omega,by go_num,fun i l o a=>?_⟩,by simp[intOf];omega⟩;rcases Nat.lt_succ_iff_lt_or_eq.1 o with h |rfl
      .exact H.out i l h a
      .rw[getElem?_eq_getElem d]at a;obtain rfl:=Option.some.inj a;rintro(h |h)
       .exact H1.out h
       .exact c h.2
    .have t:=bP hp;go_wp2_with fail;refine(we _ _ hp _).mono ?_;rintro e w' ⟨rfl,rfl⟩;clear hp;go_wp2;refine⟨⟨k+1,by omega,by go_num,fun i l o a=>?_⟩,by simp[intOf];omega⟩;rcases Nat.lt_succ_iff_lt_or_eq.1 o with h |rfl
     .exact H.out i l h a
     .rw[getElem?_eq_getElem d]at a;obtain rfl:=Option.some.inj a;rintro(h |h)
      .exact H1.out h
      .exact t.out h.1
  .go_wp2;go_ret;refine⟨cj fun c=>?_,rfl⟩;obtain⟨l,a,h⟩:=(fp _ _).1 c;obtain⟨m,hm,rfl⟩:=mem_map.1 a;obtain⟨i,o,B⟩:=getElem_of_mem hm;refine H.out i m (by omega) (by rw[getElem?_eq_getElem o,B]) ?_;rcases h with h |⟨r,e,h⟩
   .exact .inl h
   .obtain⟨J,y⟩:=ia.1 e;rw[b9]at y;exact .inr ⟨J,y▸h⟩
end
section
open Go Classical
def cD (n z:Int):Prop:=0<=z/\z<n
def dD (z:Int):Prop:=z=0\/(33<=z/\z<=126)
structure cN (M:cu):Prop where
 one:1<=M.ag
 most:M.ag<=4000
 start:cD M.ag M.start
 an:M.arcs.length<=20000
 final:∀s∈M.final,cD M.ag s
 inc:M.final.Pairwise (·<·)
 arcs:∀a∈M.arcs,cD M.ag a.frm/\cD M.ag a.to/\dD a.inp/\dD a.out
 az:cR M.arcs
def c7 (l:List Arc)(s c:Int):List Arc:=l.filter (fun a=>decide (a.frm=s/\a.inp=c))
def tgt (s c:Int):Arc:=⟨s,c, -1,0⟩
theorem ec {l:List Arc}{s:Int}:a∈c7 l s c↔a∈l/\a.frm=s/\a.inp=c:=by
 unfold c7;rw[mem_filter];simp
theorem xD (s c:Int):c7 [] s c=[]:=rfl
theorem Cb {l:List Arc}{s:Int}(k:Nat)(h:∀t,t<k->∀a,l[t]?=some a->a.lt (tgt s c))(e:∀a∈l,0<=a.out):c7 l s c=c7 (l.drop k) s c:=by
 conv=>lhs;rw[<-take_append_drop k l]
 unfold c7;rw[filter_append];have:(l.take k).filter (fun a=>decide (a.frm=s/\a.inp=c))=[]:=by
  rw[filter_eq_nil_iff];intro a d;obtain⟨t,b⟩:=mem_iff_getElem?.1 d;rw[getElem?_take]at b;split at b
  .have h1:=h t (by assumption) a b;have f:=e a (mem_of_getElem? b);unfold Arc.lt tgt at h1;simp at h1⊢;omega
  .cases b
 rw[this,nil_append]
theorem Cd {l:List Arc}{s:Int}(f:cR l)(k:Nat)(a:Arc)(hk:l[k]?=some a)(g:¬a.lt (tgt s c))(p:∀a∈l,0<=a.out)(i:¬(a.frm=s/\a.inp=c)):c7 (l.drop k) s c=[]:=by
 unfold c7;rw[filter_eq_nil_iff];intro b o;obtain⟨t,d⟩:=mem_iff_getElem?.1 o;rw[getElem?_drop]at d;have q:=p a (mem_of_getElem? hk);have e:a=b\/a.lt b:=by
  rcases eq_zero_or_pos t with rfl |r
  .rw[Nat.add_zero,hk]at d;exact .inl (Option.some.inj d)
  .obtain⟨h1,j⟩:=List.getElem?_eq_some_iff.1 hk;obtain⟨n,m⟩:=List.getElem?_eq_some_iff.1 d;have:=pairwise_iff_getElem.1 f k (k+t) h1 n (by omega);rw[j,m]at this;exact .inr this
 simp only[decide_eq_true_eq];unfold Arc.lt tgt at *;rcases e with rfl |e
 .exact i
 .simp at g;omega
theorem Cc {l:List Arc}{s:Int}(k:Nat)(a:Arc)(hk:l[k]?=some a)(he:a.frm=s/\a.inp=c):c7 (l.drop k) s c=a::c7 (l.drop (k+1)) s c:=by
 obtain⟨h1,b⟩:=List.getElem?_eq_some_iff.1 hk;rw[drop_eq_getElem_cons h1,b];unfold c7;rw[filter_cons_of_pos (by simpa using he)]
def dM (t:ByteArray)(c:Int):ByteArray:=if c=0 then t else t++⟨#[c.toNat.toUInt8]⟩
theorem jn (t:ByteArray)(c:Int):(dM t c).size<=t.size+1:=by
 unfold dM;split
 .omega
 .rw[ByteArray.size_append];exact bW
def oT (M:cu)(c:Int)(p q:Plc):Prop:=∃a∈M.arcs,a.frm=p.st/\a.inp=c/\q=⟨a.to,dM p.tx a.out⟩
theorem ie {M:cu}{p:Plc}:oT M c p q↔∃a∈c7 M.arcs p.st c,q=⟨a.to,dM p.tx a.out⟩:=by
 unfold oT;simp only[ec,and_assoc]
inductive Cl (M:cu)(S:Plc->Prop):Plc->Prop
 |base {p:Plc}:S p->Cl M S p
 |more {p q:Plc}:Cl M S p->oT M 0 p q->Cl M S q
theorem Cl.imp {M:cu}{S T:Plc->Prop}(h:∀p,S p->T p){p:Plc}(hp:Cl M S p):Cl M T p:=by
 induction hp with
 |base a=>exact .base (h _ a)
 |more _ b c=>exact .more c b
def ez (M:cu)(S:Plc->Prop)(c:Int)(p:Plc):Prop:=if c=0 then S p else∃q,S q/\oT M c q p
def mF (M:cu)(S:Plc->Prop)(c:Int):Plc->Prop:=Cl M (ez M S c)
def Reach (M:cu):List UInt8->Plc->Prop
 |l=>l.foldl (fun S b=>if b=0 then fun _=>False else mF M S (b.toNat:Int)) (Cl M (fun p=>p=⟨M.start,⟨#[]⟩⟩))
theorem iF (M:cu):Reach M []=Cl M (fun p=>p=⟨M.start,⟨#[]⟩⟩):=rfl
theorem fN (M:cu)(l:List UInt8)(b:UInt8)(a:b≠0):Reach M (l++[b])=mF M (Reach M l) (b.toNat:Int):=by
 unfold Reach;rw[foldl_append];simp[a]
def gq (S:Plc->Prop):Prop:=∃ks:List Plc,ks.length<=2000/\∀p,S p->p∈ks
def Result (M:cu)(x:List UInt8)(t:ByteArray):Prop:=0∉x/\∃s∈M.final,Reach M x ⟨s,t⟩
def Ed (M:cu)(s t:Int):Prop:=∃a∈c7 M.arcs s 0,a.to=t
inductive Way (R:Int->Int->Prop):Int->Int->Prop
 |one {a b:Int}:R a b->Way R a b
 |more {a b c:Int}:Way R a b->R b c->Way R a c
def q8 (R:Int->Int->Prop)(a b:Int):Prop:=a=b\/Way R a b
def eJ (M:cu):Prop:=∃s,Way (Ed M) s s
structure lS (M:cu)(sn:List Int):Prop where
 next:∀u t:Nat,sn[u]?=some 2->Ed M u t->sn[t]?=some 2
 none:∀u:Nat,sn[u]?=some 2->¬Way (Ed M) u u
structure lT (sn sn':List Int):Prop where
 len:sn'.length=sn.length
 opens:∀u:Nat,sn'[u]?=some 1↔sn[u]?=some 1
 done:∀u:Nat,sn[u]?=some 2->sn'[u]?=some 2
 aY:∀u:Nat,sn'[u]?=some 0->sn[u]?=some 0
theorem lT.refl (sn:List Int):lT sn sn:=⟨rfl,fun _=>Iff.rfl,fun _ h=>h,fun _ h=>h⟩
theorem lT.trans {a b c:List Int}(h:lT a b)(k:lT b c):lT a c:=
 ⟨k.len.trans h.len,fun u=>(k.opens u).trans (h.opens u),fun u hu=>k.done u (h.done u hu),fun u hu=>h.aY u (k.aY u hu)⟩
theorem qD:∀{a b:List Int},b.length=a.length->(∀u:Nat,b[u]?=some 0->a[u]?=some 0)->b.count 0<=a.count 0
 |[],[],_,_=>bW
 |x::a,y::b,c,h=>by
  have f:=qD (a:=a) (b:=b) (by simpa using c) (fun u hu=>by have:=h (u+1) (by simpa using hu);simpa using this);have e:=h 0;simp at e;rw[count_cons,count_cons];by_cases d:y=0
  .rw[e d,d];simp;exact f
  .simp[d];omega
 |[],_::_,c,_=>by simp at c
 |_::_,[],c,_=>by simp at c
theorem lT.count {a b:List Int}(h:lT a b):b.count 0<=a.count 0:=qD h.len h.aY
def oS (sn:List Int):Prop:=∀c∈sn,c=0\/c=1\/c=2
structure iH (M:cu)(sn0:List Int)(s:Nat)(pre:List Arc)(sn:List Int):Prop where
 aw:lT (sn0.set s 1) sn
 ok:lS M sn
 aQ:oS sn
 got:∀a∈pre,sn[a.to.toNat]?=some 2
structure zm (M:cu)(sn:List Int)(s:Nat)(sn':List Int):Prop where
 aw:lT sn sn'
 ok:lS M sn'
 aQ:oS sn'
 self:sn'[s]?=some 2
theorem dX {sn:List Int}{s u:Nat}{d:Int}(a:s<sn.length):(sn.set s c)[u]?=some d↔(u=s/\c=d)\/(u≠s/\sn[u]?=some d):=by
 rw[getElem?_set];by_cases h:s=u
 .subst h;simp[a]
 .rw[if_neg h];constructor
  .intro hu;exact .inr ⟨fun e=>h e.symm,hu⟩
  .rintro(⟨rfl,_⟩ |⟨_,hu⟩)
   .exact absurd rfl h
   .exact hu
theorem oS.set {sn:List Int}(h:oS sn)(s:Nat)(a:c=0\/c=1\/c=2):oS (sn.set s c):=by
 intro d b;rcases mem_or_eq_of_mem_set b with h1 |rfl
 .exact h d h1
 .exact a
section
variable {M : cu} {sn0 sn : List Int} {s : Nat} {pre : List Arc}
theorem iH.start (b:sn0[s]?=some 0)(a:lS M sn0)(d:oS sn0):iH M sn0 s [] (sn0.set s 1):=by
 have c:s<sn0.length:=(List.getElem?_eq_some_iff.1 b).1;refine⟨lT.refl _,⟨fun u t hu he=>?_,fun u hu=>?_⟩,d.set s (.inr (.inl rfl)),by simp⟩
 .rw[dX c]at hu⊢;rcases hu with ⟨_,h⟩ |⟨_,hu⟩
  .cases h
  .have:=a.next u t hu he;refine .inr ⟨fun e=>?_,this⟩;rw[e,b]at this;cases this
 .rw[dX c]at hu;rcases hu with ⟨_,h⟩ |⟨_,hu⟩
  .cases h
  .exact a.none u hu
theorem iH.old (h:iH M sn0 s pre sn)(c:sn[x.to.toNat]?=some 2):iH M sn0 s (pre++[x]) sn:=
 ⟨h.aw,h.ok,h.aQ,fun a b=>by
  rcases mem_append.1 b with h1 |h1
  .exact h.got a h1
  .obtain rfl:a=x:=by simpa using h1
   exact c⟩
theorem iH.new (h:iH M sn0 s pre sn){sn':List Int}(b:zm M sn x.to.toNat sn'):iH M sn0 s (pre++[x]) sn':=
 ⟨h.aw.trans b.aw,b.ok,b.aQ,fun a c=>by
  rcases mem_append.1 c with h1 |h1
  .exact b.aw.done _ (h.got a h1)
  .obtain rfl:a=x:=by simpa using h1
   exact b.self⟩
theorem iH.bH (h:iH M sn0 s pre sn)(a:s<sn0.length):sn[s]?=some 1:=by
 rw[h.aw.opens s,dX a];exact .inl ⟨rfl,rfl⟩
theorem uM (hp:∀u:Nat,sn0[u]?=some 1->q8 (Ed M) u s)(a:s<sn0.length)(h:iH M sn0 s pre sn)(b:x∈c7 M.arcs s 0):∀u:Nat,sn[u]?=some 1->Way (Ed M) u x.to:=by
 intro u hu;rw[h.aw.opens u,dX a]at hu;have he:Ed M s x.to:=⟨x,b,rfl⟩;rcases hu with ⟨rfl,_⟩ |⟨_,hu⟩
 .exact .one he
 .rcases hp u hu with e |hw
  .rw[e];exact .one he
  .exact hw.more he
theorem iH.bI (h:iH M sn0 s pre sn)(hp:∀u:Nat,sn0[u]?=some 1->q8 (Ed M) u s)(b:s<sn0.length)(c:x∈c7 M.arcs s 0)(a:0<=x.to)(h1:sn[x.to.toNat]?=some 1):eJ M:=by
 have:=uM hp b h c _ h1;rw[toNat_of_nonneg a]at this;exact⟨_,this⟩
theorem Dz (f:lS M sn)(g:∀a∈M.arcs,0<=a.to){u:Nat}(hu:sn[u]?=some 2){t:Int}(h:Way (Ed M) u t):0<=t/\sn[t.toNat]?=some 2:=by
 induction h with
 | @one b h1=>
  obtain⟨x,e,rfl⟩:=h1;have d:=g x (ec.1 e).1;refine⟨d,f.next u _ hu ⟨x,e,?_⟩⟩;rw[toNat_of_nonneg d]
 | @more b c _ h1 k=>
  obtain⟨i,j⟩:=k;obtain⟨x,e,rfl⟩:=h1;have d:=g x (ec.1 e).1;refine⟨d,f.next b.toNat _ j ⟨x,?_,?_⟩⟩
  .rw[toNat_of_nonneg i];exact e
  .rw[toNat_of_nonneg d]
theorem qi {R:Int->Int->Prop}{a b:Int}(h:Way R a b):∃c,R a c/\(c=b\/Way R c b):=by
 induction h with
 |one h1=>exact⟨_,h1,.inl rfl⟩
 |more _ h1 f=>
  obtain⟨c,e,d⟩:=f;refine⟨c,e,.inr ?_⟩;rcases d with rfl |d
  .exact .one h1
  .exact d.more h1
theorem iH.finish (h:iH M sn0 s (c7 M.arcs s 0) sn)(j:sn0[s]?=some 0)(i:∀a∈M.arcs,0<=a.to):zm M sn0 s (sn.set s 2):=by
 have d:s<sn0.length:=(List.getElem?_eq_some_iff.1 j).1;have hlen:sn.length=sn0.length:=by rw[h.aw.len];simp
 have f:s<sn.length:=by omega
 have h1:=h.bH d;have l:∀t:Nat,Ed M s t->sn[t]?=some 2:=by
  rintro t ⟨a,g,e⟩;have:=h.got a g;rw[e]at this;simpa using this
 refine⟨⟨by simpa using hlen,fun u=>?_,fun u hu=>?_,fun u hu=>?_⟩,⟨fun u t hu he=>?_,fun u hu hw=>?_⟩,h.aQ.set s (.inr (.inr rfl)),?_⟩
 .rw[dX f];constructor
  .rintro(⟨_,e⟩ |⟨b,hu⟩)
   .cases e
   .rw[h.aw.opens u,dX d]at hu;rcases hu with ⟨e,_⟩ |⟨_,hu⟩
    .exact absurd e b
    .exact hu
  .intro hu;have b:u≠s:=fun e=>by rw[e,j]at hu;cases hu
   exact .inr ⟨b,by rw[h.aw.opens u,dX d];exact .inr ⟨b,hu⟩⟩
 .rw[dX f];have b:u≠s:=fun e=>by rw[e,j]at hu;cases hu
  exact .inr ⟨b,h.aw.done u (by rw[dX d];exact .inr ⟨b,hu⟩)⟩
 .rw[dX f]at hu;rcases hu with ⟨_,e⟩ |⟨b,hu⟩
  .cases e
  .have:=h.aw.aY u hu;rw[dX d]at this;rcases this with ⟨e,_⟩ |⟨_,hu⟩
   .exact absurd e b
   .exact hu
 .rw[dX f]at hu⊢;have m:sn[t]?=some 2:=by
   rcases hu with ⟨rfl,_⟩ |⟨_,hu⟩
   .exact l t he
   .exact h.ok.next u t hu he
  exact .inr ⟨(fun e=>by rw[e,h1]at m;cases m),m⟩
 .rw[dX f]at hu;rcases hu with ⟨rfl,_⟩ |⟨_,hu⟩
  .obtain⟨c,o,p⟩:=qi hw;have r:=o;obtain⟨a,g,rfl⟩:=o;have n:=i a (ec.1 g).1;have k:sn[a.to.toNat]?=some 2:=h.got a g;rcases p with e |q
   .rw[e,toNat_natCast,h1]at k;cases k
   .have:=Dz (u:=a.to.toNat) h.ok i k (t:=u) (by rw[toNat_of_nonneg n];exact q);rw[toNat_natCast,h1]at this;cases this.2
  .exact h.ok.none u hu hw
 .rw[dX f];exact .inl ⟨rfl,rfl⟩
theorem BH (e:lS M sn)(d:∀a∈M.arcs,0<=a.frm/\a.frm<M.ag)(b:∀u:Nat,(u:Int)<M.ag->sn[u]?=some 2):¬eJ M:=by
 rintro⟨s,f⟩;obtain⟨c,⟨a,j,_⟩,_⟩:=qi f;obtain⟨h1,g,_⟩:=ec.1 j;have:=d a h1;rw[g]at this;have i:=b s.toNat (by omega);refine e.none s.toNat i ?_;rw[toNat_of_nonneg this.1];exact f
end
theorem count_set {sn:List Int}{s:Nat}(a:sn[s]?=some 0):(sn.set s 1).count 0<sn.count 0:=by
 induction sn generalizing s with
 |nil=>simp at a
 |cons x sn b=>
  cases s with
  |zero=>simp at a;subst a;simp
  |succ s=>
   have:=b (s:=s) (by simpa using a);simp only[set_cons_succ,count_cons];omega
noncomputable def eC (ks:List Plc)(p:Plc):List Plc:=if p∈ks then ks else ks++[p]
noncomputable def tB (ks:List Plc)(p:Plc):List Plc:=if p∈ks then [] else [p]
def dy (p:Plc)(a:Arc):Plc:=⟨a.to,dM p.tx a.out⟩
theorem dI {ks:List Plc}{p x:Plc}:x∈eC ks p↔x∈ks\/x=p:=by
 unfold eC;split
 .constructor
  .exact .inl
  .rintro(h |rfl);exact h;assumption
 .simp
theorem lY (ks:List Plc)(p:Plc):(eC ks p).length<=ks.length+1:=by
 unfold eC;split<;>simp
theorem vJ (ks:List Plc)(p:Plc):ks<+:eC ks p:=by
 unfold eC;split
 .exact prefix_refl _
 .exact prefix_append _ _
theorem CD {ks:List Plc}{p:Plc}(h:ks[j]?=some q):(eC ks p)[j]?=some q:=by
 obtain⟨r,a⟩:=vJ ks p;rw[<-a,getElem?_append_left (List.getElem?_eq_some_iff.1 h).1];exact h
theorem xU {ks:List Plc}{p:Plc}(a:j<ks.length)(h:(eC ks p)[j]?=some q):ks[j]?=some q:=by
 obtain⟨r,b⟩:=vJ ks p;rw[<-b,getElem?_append_left a]at h;exact h
theorem tm (ks:List Plc)(p:Plc):ks++tB ks p=eC ks p:=by
 unfold eC tB;split<;>simp
theorem A6 {ks:List Plc}{p:Plc}{i:Nat}(a:i<=ks.length):ks.drop i++tB ks p=(eC ks p).drop i:=by
 rw[<-tm,drop_append_of_le_length a]
theorem oz (l:List Arc)(s c:Int):(c7 l s c).length<=l.length:=length_filter_le _ _
structure Ph1 (M:cu)(S:Plc->Prop)(L:Nat)(ks:List Plc):Prop where
 snd:∀p∈ks,S p
 cmp:∀p,S p->p∈ks
 size:∀p∈ks,p.tx.size<=L+1
 st:∀p∈ks,cD M.ag p.st
 len:ks.length<=40000000
structure oQ (M:cu)(S:Plc->Prop)(L i:Nat)(ks:List Plc):Prop where
 il:i<=ks.length
 snd:∀p∈ks,Cl M S p
 cmp:∀p,S p->p∈ks
 got:∀(j:Nat) p,j<i->ks[j]?=some p->∀a∈c7 M.arcs p.st 0,dy p a∈ks
 size:∀p∈ks,p.tx.size<=L+1+i
 st:∀p∈ks,cD M.ag p.st
 len:ks.length<=40000000+i*20000
structure oR (M:cu)(S:Plc->Prop)(L i:Nat)(p:Plc)(pre:List Arc)(ks:List Plc):Prop where
 self:ks[i]?=some p
 snd:∀p∈ks,Cl M S p
 cmp:∀p,S p->p∈ks
 got:∀(j:Nat) p,j<i->ks[j]?=some p->∀a∈c7 M.arcs p.st 0,dy p a∈ks
 size:∀p∈ks,p.tx.size<=L+1+(i+1)
 aX:p.tx.size<=L+1+i
 st:∀p∈ks,cD M.ag p.st
 len:ks.length<=40000000+i*20000+pre.length
 done:∀a∈pre,dy p a∈ks
section
variable {M : cu} {S : Plc → Prop} {L i : Nat} {p : Plc} {pre : List Arc} {ks : List Plc}
theorem Ph1.start (h:Ph1 M S L ks):oQ M S L 0 ks:=
 ⟨zero_le _,fun p hp=> .base (h.snd p hp),h.cmp,fun j p a=>absurd a (not_lt_zero _),h.size,h.st,by have:=h.len;omega⟩
theorem oQ.open (h:oQ M S L i ks)(hp:ks[i]?=some p):oR M S L i p [] ks:=
 ⟨hp,h.snd,h.cmp,h.got,fun q a=>by have:=h.size q a;omega,h.size p (mem_of_getElem? hp),h.st,by have:=h.len;simpa using this,by simp⟩
theorem oR.step (h:oR M S L i p pre ks)(f:a∈c7 M.arcs p.st 0)(e:cD M.ag a.to):oR M S L i p (pre++[a]) (eC ks (dy p a)):=by
 have k:i<ks.length:=(List.getElem?_eq_some_iff.1 h.self).1;refine⟨CD h.self,fun q c=>?_,fun q c=>dI.2 (.inl (h.cmp q c)),fun j q g c b d=>dI.2 (.inl (h.got j q g (xU (by omega) c) b d)),fun q c=>?_,h.aX,fun q c=>?_,?_,fun b d=>?_⟩
 .rcases dI.1 c with c |rfl
  .exact h.snd q c
  .exact .more (h.snd p (mem_of_getElem? h.self)) (ie.2 ⟨a,f,rfl⟩)
 .rcases dI.1 c with c |rfl
  .exact h.size q c
  .have h1:=jn p.tx a.out;have l:=h.aX;show(dM p.tx a.out).size<=_;omega
 .rcases dI.1 c with c |rfl
  .exact h.st q c
  .exact e
 .have:=lY ks (dy p a);have:=h.len;simp;omega
 .rcases mem_append.1 d with d |d
  .exact dI.2 (.inl (h.done b d))
  .obtain rfl:b=a:=by simpa using d
   exact dI.2 (.inr rfl)
theorem oR.close (h:oR M S L i p (c7 M.arcs p.st 0) ks)(e:M.arcs.length<=20000):oQ M S L (i+1) ks:=by
 have c:i<ks.length:=(List.getElem?_eq_some_iff.1 h.self).1;refine⟨c,h.snd,h.cmp,fun j q a b=>?_,h.size,h.st,?_⟩
 .rcases Nat.lt_succ_iff_lt_or_eq.1 a with a |rfl
  .exact h.got j q a b
  .rw[h.self]at b;cases b;exact h.done
 .have h1:=h.len;have d:=oz M.arcs p.st 0;omega
theorem oQ.finish (h:oQ M S L ks.length ks)(f:Cl M S q):q∈ks:=by
 induction f with
 |base c=>exact h.cmp _ c
 |more _ e g=>
  obtain⟨a,d,rfl⟩:=ie.1 e;obtain⟨j,b⟩:=mem_iff_getElem?.1 g;exact h.got j _ (List.getElem?_eq_some_iff.1 b).1 b a d
end
structure A0 (fs rest ks:List Plc):Prop where
 snd:∀p∈ks,p∈fs
 cmp:∀p∈fs,p∈rest\/p∈ks
 sub:∀p∈rest,p∈fs
 len:ks.length+rest.length<=fs.length
theorem A0.start (fs:List Plc):A0 fs fs []:=⟨by simp,fun p hp=> .inl hp,fun _ h=>h,by simp⟩
theorem A0.step {A B ks:List Plc}{p:Plc}(h:A0 fs (A++p::B) ks):A0 fs (A++B) (eC ks p):=by
 refine⟨fun q a=>?_,fun q a=>?_,fun q a=>h.sub q ?_,?_⟩
 .rcases dI.1 a with a |rfl
  .exact h.snd q a
  .exact h.sub q (by simp)
 .rcases h.cmp q a with h1 |h1
  .simp at h1;rcases h1 with h1 |rfl |h1
   .exact .inl (by simp[h1])
   .exact .inr (dI.2 (.inr rfl))
   .exact .inl (by simp[h1])
  .exact .inr (dI.2 (.inl h1))
 .simp at a⊢;rcases a with a |a<;>simp[a]
 .have h1:=h.len;have b:=lY ks p;simp at h1⊢;omega
theorem A0.finish {M:cu}{L:Nat}{ks:List Plc}(h:A0 fs [] ks)(b:∀p∈fs,p.tx.size<=L)(a:∀p∈fs,cD M.ag p.st)(c:fs.length<=2000):Ph1 M (ez M (·∈fs) 0) L ks:=by
 refine⟨fun p hp=>?_,fun p hp=>?_,fun p hp=>by have:=b p (h.snd p hp);omega,fun p hp=>a p (h.snd p hp),by have:=h.len;simp at this;omega⟩
 .unfold ez;rw[if_pos rfl];exact h.snd p hp
 .unfold ez at hp;rw[if_pos rfl]at hp;rcases h.cmp p hp with h1 |h1
  .cases h1
  .exact h1
structure A1 (M:cu)(c:Int)(L:Nat)(fs rest ks:List Plc):Prop where
 snd:∀q∈ks,∃p∈fs,oT M c p q
 cmp:∀p∈fs,p∈rest\/∀a∈c7 M.arcs p.st c,dy p a∈ks
 sub:∀p∈rest,p∈fs
 size:∀q∈ks,q.tx.size<=L+1
 st:∀q∈ks,cD M.ag q.st
 len:ks.length+rest.length*20000<=fs.length*20000
structure A1i (M:cu)(c:Int)(L:Nat)(fs rest:List Plc)(p:Plc)(pre:List Arc)(ks:List Plc):Prop where
 snd:∀q∈ks,∃p∈fs,oT M c p q
 cmp:∀q∈fs,q∈rest\/q=p\/∀a∈c7 M.arcs q.st c,dy q a∈ks
 sub:∀q∈rest,q∈fs
 mem:p∈fs
 size:∀q∈ks,q.tx.size<=L+1
 st:∀q∈ks,cD M.ag q.st
 len:ks.length+rest.length*20000+20000<=fs.length*20000+pre.length
 done:∀a∈pre,dy p a∈ks
theorem A1.start (M:cu)(c:Int)(L:Nat)(fs:List Plc):A1 M c L fs fs []:=⟨by simp,fun p hp=> .inl hp,fun _ h=>h,by simp,by simp,by simp⟩
theorem A1.open {M:cu}{L:Nat}{A B ks:List Plc}{p:Plc}(h:A1 M c L fs (A++p::B) ks):A1i M c L fs (A++B) p [] ks:=by
 refine⟨h.snd,fun q a=>?_,fun q a=>h.sub q ?_,h.sub p (by simp),h.size,h.st,?_,by simp⟩
 .rcases h.cmp q a with h1 |h1
  .simp at h1;rcases h1 with h1 |rfl |h1
   .exact .inl (by simp[h1])
   .exact .inr (.inl rfl)
   .exact .inl (by simp[h1])
  .exact .inr (.inr h1)
 .simp at a⊢;rcases a with a |a<;>simp[a]
 .have h1:=h.len;simp at h1⊢;omega
theorem A1i.step {M:cu}{L:Nat}{rest ks:List Plc}{p:Plc}{pre:List Arc}(h:A1i M c L fs rest p pre ks)(g:a∈c7 M.arcs p.st c)(f:cD M.ag a.to)(hp:p.tx.size<=L):A1i M c L fs rest p (pre++[a]) (eC ks (dy p a)):=by
 refine⟨fun q d=>?_,fun q d=>?_,h.sub,h.mem,fun q d=>?_,fun q d=>?_,?_,fun b e=>?_⟩
 .rcases dI.1 d with d |rfl
  .exact h.snd q d
  .exact⟨p,h.mem,ie.2 ⟨a,g,rfl⟩⟩
 .rcases h.cmp q d with h1 |h1 |h1
  .exact .inl h1
  .exact .inr (.inl h1)
  .exact .inr (.inr fun b e=>dI.2 (.inl (h1 b e)))
 .rcases dI.1 d with d |rfl
  .exact h.size q d
  .have h1:=jn p.tx a.out;show(dM p.tx a.out).size<=_;omega
 .rcases dI.1 d with d |rfl
  .exact h.st q d
  .exact f
 .have h1:=lY ks (dy p a);have i:=h.len;simp;omega
 .rcases mem_append.1 e with e |e
  .exact dI.2 (.inl (h.done b e))
  .obtain rfl:b=a:=by simpa using e
   exact dI.2 (.inr rfl)
theorem A1i.close {M:cu}{L:Nat}{rest ks:List Plc}{p:Plc}(h:A1i M c L fs rest p (c7 M.arcs p.st c) ks)(d:M.arcs.length<=20000):A1 M c L fs rest ks:=by
 refine⟨h.snd,fun q a=>?_,h.sub,h.size,h.st,?_⟩
 .rcases h.cmp q a with h1 |rfl |h1
  .exact .inl h1
  .exact .inr h.done
  .exact .inr h1
 .have h1:=h.len;have b:=oz M.arcs p.st c;omega
theorem A1.finish {M:cu}{L:Nat}{ks:List Plc}(h:A1 M c L fs [] ks)(e:c≠0)(g:fs.length<=2000):Ph1 M (ez M (·∈fs) c) L ks:=by
 refine⟨fun q b=>?_,fun q b=>?_,h.size,h.st,by have:=h.len;simp at this;omega⟩
 .unfold ez;rw[if_neg e];obtain⟨p,hp,d⟩:=h.snd q b;exact⟨p,hp,d⟩
 .unfold ez at b;rw[if_neg e]at b;obtain⟨p,hp,d⟩:=b;obtain⟨a,f,rfl⟩:=ie.1 d;rcases h.cmp p hp with h1 |h1
  .cases h1
  .exact h1 a f
end
section
open Go Classical Go.Maps
theorem gz {α:Type}:∀{l m:List α},l.Nodup->(∀x∈l,x∈m)->l.length<=m.length
 |[],_,_,_=>zero_le _
 |x::l,m,a,b=>by
  have d:=b x (by simp);obtain⟨A,B,rfl⟩:=append_of_mem d;have h1:=gz (l:=l) (m:=A++B) (nodup_cons.1 a).2 (fun y c=>by
   have:=b y (mem_cons_of_mem _ c);simp at this⊢;rcases this with h |rfl |h
   .exact .inl h
   .exact absurd c (nodup_cons.1 a).1
   .exact .inr h)
  simp at h1⊢;omega
theorem so {S:Plc->Prop}{ks:List Plc}(a:ks.length<=2000)(h:∀p,S p->p∈ks):gq S:=⟨ks,a,h⟩
theorem yW {S:Plc->Prop}{ks:List Plc}(d:2000<ks.length)(b:ks.Nodup)(h:∀p∈ks,S p):¬gq S:=by
 rintro⟨c,h1,a⟩;have:=gz b (fun p hp=>a p (h p hp));omega
theorem vS {M:cu}{S:Plc->Prop}(h:∀p,¬S p){p:Plc}:¬Cl M S p:=by
 intro hp;induction hp with
 |base a=>exact h _ a
 |more _ _ b=>exact b
theorem mZ (M:cu)(l:List UInt8)(p:Plc):¬Reach M (l++[0]) p:=by
 unfold Reach;rw[foldl_append];simp
theorem Dv {P:List UInt8->Prop}(a:P [])(h1:∀l b,P l->P (l++[b])):∀l,P l:=by
 intro l;rw[<-reverse_reverse l];generalize l.reverse=r;induction r with
 |nil=>exact a
 |cons b r c=>rw[reverse_cons];exact h1 _ _ c
theorem Af (M:cu){l:List UInt8}(b:UInt8)(h:∀p,¬Reach M l p)(p:Plc):¬Reach M (l++[b]) p:=by
 by_cases a:b=0
 .subst a;exact mZ M _ p
 .rw[fN M _ b a];refine vS (fun q c=>?_);unfold ez at c;rw[if_neg (fun e=>a (by
   have:b.toNat=0:=by omega
   exact UInt8.toNat_inj.1 this))]at c
  obtain⟨d,h1,_⟩:=c;exact h d h1
theorem sN (M:cu):∀(l:List UInt8),0∈l->∀p,¬Reach M l p:=by
 refine Dv (fun h=>by simp at h) (fun l b d h p=>?_);by_cases a:0∈l
 .exact Af M b (d a) p
 .have c:b=0:=by simp[a]at h;exact h.symm
  subst c;exact mZ M l p
def eO (ts:List ByteArray):Prop:=(ts.map bl).Pairwise (fun a b=>a<=b)/\(ts.map bl).Nodup
theorem eO.ext {a b:List ByteArray}(f:eO a)(g:eO b)(h:∀t,t∈a↔t∈b):a=b:=by
 have hp:(a.map bl).Perm (b.map bl):=by
  refine(perm_ext_iff_of_nodup f.2 g.2).2 (fun x=>?_);rw[mem_map,mem_map];constructor
  .rintro⟨t,d,rfl⟩;exact⟨t,(h t).1 d,rfl⟩
  .rintro⟨t,d,rfl⟩;exact⟨t,(h t).2 d,rfl⟩
 have he:=Perm.eq_of_pairwise (le:=fun a b:List UInt8=>a<=b) (fun x y _ _ h1 i=>List.le_antisymm h1 i) f.1 g.1 hp;have c:∀(a b:List ByteArray),a.map bl=b.map bl->a=b:=by
  intro a;induction a with
  |nil=>intro b e;cases b with
   |nil=>rfl
   |cons _ _=>simp at e
  |cons x a j=>
   intro b e;cases b with
   |nil=>simp at e
   |cons y b=>
    simp at e;rw[cY e.1,j b e.2]
 exact c a b he
def et (M:cu)(x:List UInt8)(ts:List ByteArray)(err:Int):Prop:=
 (¬(cN M/\x.length<=400)/\ts=[]/\err=1)\/
 ((cN M/\x.length<=400)/\((eJ M/\ts=[]/\err=12)\/
  (¬eJ M/\(((∃i,i<=x.length/\¬gq (Reach M (x.take i)))/\ts=[]/\err=2)\/((∀i,i<=x.length->gq (Reach M (x.take i)))/\err=0/\eO ts/\∀t,t∈ts↔Result M x t)))))
theorem insert_perm {H:Type}(x:Lit×DataW H):∀l:List (Lit×DataW H),(DataW.insert x l).Perm (x::l)
 |[]=>List.Perm.refl _
 |y::r=>by
  rw[DataW.insert];split
  .exact List.Perm.refl _
  .exact((insert_perm x r).cons y).trans (Perm.swap x y r)
theorem sorted_perm {H:Type}:∀l:List (Lit×DataW H),(l.foldr DataW.insert []).Perm l
 |[]=>List.Perm.refl _
 |x::l=>(insert_perm x _).trans ((sorted_perm l).cons x)
theorem BK {P:Program}{k:TypeId}(hk:P.underlying k=some .string){a:List ByteArray}(h:cy w b dR (a.map Value.string))(l:∀s∈a,s.size<=maxLen)(r:a.length<=maxLen):
  ∃i:DataW Unit,w.ownsMap P k (fun _=>some (DataW.nil,[])) b a.length i/\(strKeys i).Perm (a.map bl)/\Maps.size i=a.length:=by
 obtain⟨es,clock,n,o,q,hm⟩:=h;have hlen:es.size=a.length:=by have:=congrArg length hm;simpa using this
 have c:es.toList.map (·.key)=a.map Value.string:=by
  have:=congrArg (map Prod.fst) hm;simpa [map_map,Function.comp_def]using this
 have j:∀s:ByteArray,s.size<=maxLen->keyOf P k (.string s)=some (.string (bl s)):=fun s h=>by
  unfold keyOf;rw[hk];simp[mapKey,hk,h,bl]
 have f:∀y∈es.toList,∃s∈a,y.key= .string s/\Go.WideElems.rd P k (fun _=>some ((DataW.nil:DataW Unit),[])) y=some (.string (bl s),.nil):=fun y d=>by
  have:y.key∈a.map Value.string:=by rw[<-c];exact mem_map.2 ⟨y,d,rfl⟩
  obtain⟨s,g,e⟩:=mem_map.1 this;refine⟨s,g,e.symm,?_⟩;unfold Go.WideElems.rd;rw[<-e,j s (l s g)];rfl
 refine⟨_,⟨es,clock,n,⟨by omega,o,fun y d=>by obtain⟨s,_,_,h⟩:=f y d;exact⟨_,h⟩⟩,by omega,rfl⟩,?_,?_⟩
 .show(((es.toList.map (Go.WideElems.rg P k (fun _=>some ((DataW.nil:DataW Unit),[])))).foldr DataW.insert []).map fun p=>strOf p.1).Perm _;refine((sorted_perm _).map _).trans ?_;have:(es.toList.map (Go.WideElems.rg P k (fun _=>some ((DataW.nil:DataW Unit),[])))).map (fun p=>strOf p.1)=a.map bl:=by
   have m:a.map bl=(es.toList.map (·.key)).map (fun v=>match v with | .string s=>bl s |_=>[]):=by
    rw[c,map_map];rfl
   rw[m,map_map,map_map];refine map_congr_left (fun y d=>?_);obtain⟨s,_,e,h⟩:=f y d;simp only[Function.comp_apply,Go.WideElems.rg,h,e,Option.getD_some,strOf]
  rw[this]
 .simp[Maps.size,Perm.length_eq (sorted_perm _),hlen]
end
section
open Go Classical
theorem xE {M:cu}{x:List UInt8}{ts:List ByteArray}{err:Int}(h:et M x ts err):ts.length<=2000:=by
 rcases h with ⟨_,h,_⟩ |⟨_,⟨_,h,_⟩ |⟨_,⟨_,h,_⟩ |⟨b,_,f,h⟩⟩⟩
 .subst h;simp
 .subst h;simp
 .subst h;simp
 .obtain⟨ks,hk,hp⟩:=b x.length bW;rw[take_length]at hp;have h1:∀t∈ts,t∈ks.map Plc.tx:=fun t g=>by
   obtain⟨_,s,_,d⟩:=(h t).1 g;exact mem_map.2 ⟨_,hp _ d,rfl⟩
  have c:ts.Nodup:=by
   have:=f.2;unfold Nodup at this⊢;rw[pairwise_map]at this;exact this.imp (fun a e=>a (by rw[e]))
  have:=gz c h1;rw[length_map]at this;omega
end
section
open Go.RowKit Classical
set_option maxRecDepth 100000
set_option maxHeartbeats 4000000
theorem zp (s:ByteArray)(w:World):
  Calls prog 165 #[.string s,.int .i64 0] w fun e w'=>e= .returned (.string s)/\w'=w:=by
 go_enter func165,ntmps165;go_wp2;go_ret;exact⟨rfl,rfl⟩
theorem zq (s:ByteArray)(c:Nat)(f:0<c)(b:c<256)(g:s.size<=1000000)(w:World):
  Calls prog 165 #[.string s,.int .i64 c] w fun e w'=>e= .returned (.string (s++⟨#[c.toUInt8]⟩))/\Below w.heap.size w w':=by
 have hw:IntKind.u8.wrap (c:Int)=(c:Int):=by simp[IntKind.wrap,IntKind.bits,IntKind.signed];omega
 have d0:((c:Int)==0)=false:=by rw[beq_eq_false_iff_ne];omega
 have a:=run_convert_bytes_back (P:=prog) (w.alloc (.cells #[.int .u8 (c:Int)] 5)) 106 9 5 ⟨w.heap.size,0,none⟩ 1 [c.toUInt8] underlying106 underlying5 underlying9 (fun j d=>by
  obtain rfl:j=0:=by simpa using d
  have:=(Blk.new w #[.int .u8 (c:Int)] 5).cell 0;simp only[Addr.add];refine this.trans ?_;simp[mod_eq_of_lt b])
 rw[show([c.toUInt8]:List UInt8).length=1 from rfl]at a;go_enter func165,ntmps165;go_wp2;go_ret;exact⟨rfl,bX.alloc bW _⟩
theorem uH (z n:Int)(b:Nat)(w:World)(h:w.cell? ⟨b,0,none⟩=some (.int .i64 n)):
  Calls prog 160 #[.int .i64 z,.pointer (some ⟨b,0,none⟩)] w fun e w'=>e= .returned (.bool (decide (cD n z)))/\w'=w:=by
 by_cases a:0<=z
 .go_enter func160,ntmps160;go_wp2;go_ret;exact⟨fy (by unfold cD;simp;omega),rfl⟩
 .go_enter func160,ntmps160;go_wp2;go_ret;exact⟨cj (by unfold cD;omega),rfl⟩
theorem sY (z:Int)(w:World):
  Calls prog 161 #[.int .i64 z] w fun e w'=>e= .returned (.bool (decide (dD z)))/\w'=w:=by
 by_cases a:z=0
 .subst a;go_enter func161,ntmps161;go_wp2;go_ret;exact⟨dP (.inl rfl),rfl⟩
 .have d0:(z==0)=false:=by simpa using a
  by_cases b:33<=z
  .go_enter func161,ntmps161;go_wp2;go_ret;exact⟨fy (by unfold dD;simp;omega),rfl⟩
  .go_enter func161,ntmps161;go_wp2;go_ret;exact⟨cj (by unfold dD;omega),rfl⟩
def Small (a:Arc):Prop:= -100000<=a.frm/\a.frm<=100000/\ -100000<=a.inp/\a.inp<=100000/\ -100000<=a.out/\a.out<=100000/\ -100000<=a.to/\a.to<=100000
def mz (a b:Arc):Int:=orI [a.frm-b.frm,a.inp-b.inp,a.out-b.out,a.to -b.to]
theorem tG (a b:Arc):mz a b<0↔a.lt b:=by
 unfold mz Arc.lt;simp only[orI];split<;>(try split)<;>(try split)<;>(try split)<;>omega
theorem ye (a b:Arc)(d:Small a)(f:Small b)(w:World):
  Calls prog 155 #[.agg #[.int .i64 a.frm,.int .i64 a.inp,.int .i64 a.out,.int .i64 a.to],.agg #[.int .i64 b.frm,.int .i64 b.inp,.int .i64 b.out,.int .i64 b.to]] w
   fun e w'=>e= .returned (.int .i64 (mz a b))/\∃G H I,w'=((w.alloc G).alloc H).alloc I:=by
 obtain⟨x1,J,x3,L,M,N,O,P⟩:=d;obtain⟨y1,y2,y3,Q,R,S,T,U⟩:=f;have v:IntKind.i64.wrap (a.frm-b.frm)=a.frm-b.frm:=IntWalk.i64_in _ (by omega);have y:IntKind.i64.wrap (a.inp-b.inp)=a.inp-b.inp:=IntWalk.i64_in _ (by omega);have A:IntKind.i64.wrap (a.out-b.out)=a.out-b.out:=IntWalk.i64_in _ (by omega);have B:IntKind.i64.wrap (a.to -b.to)=a.to -b.to:=IntWalk.i64_in _ (by omega);clear x1 J x3 L M N O P y1 y2 y3 Q R S T U;obtain⟨c,g⟩:∃c:World,c=(w.alloc (.cells #[.int .i64 a.frm,.int .i64 a.inp,.int .i64 a.out,.int .i64 a.to] 171)).alloc (.cells #[.int .i64 b.frm,.int .i64 b.inp,.int .i64 b.out,.int .i64 b.to] 171):=⟨_,rfl⟩;have d:Blk c w.heap.size #[.int .i64 a.frm,.int .i64 a.inp,.int .i64 a.out,.int .i64 a.to] 171:=by rw[g];exact(Blk.new _ _ _).alloc _
 have f:Blk c (w.heap.size+1) #[.int .i64 b.frm,.int .i64 b.inp,.int .i64 b.out,.int .i64 b.to] 171:=by
  rw[g];have:=Blk.new (w.alloc (.cells #[.int .i64 a.frm,.int .i64 a.inp,.int .i64 a.out,.int .i64 a.to] 171)) #[.int .i64 b.frm,.int .i64 b.inp,.int .i64 b.out,.int .i64 b.to] 171;simpa using this
 have a0:=d.cell 0;have q:=d.cell 1;have a2:=d.cell 2;have a3:=d.cell 3;have r:=f.cell 0;have s:=f.cell 1;have t:=f.cell 2;have u:=f.cell 3;simp only[getElem?_toArray,getElem?_cons_zero,getElem?_cons_succ]at a0 q a2 a3 r s t u;have k:=bP g;clear g d f;go_enter func155,ntmps155;go_upto_region 1 with (fail);rw[<-k.out];obtain⟨c1,h1⟩:∃z,a.frm-b.frm=z:=⟨_,rfl⟩;obtain⟨c2,m⟩:∃z,a.inp-b.inp=z:=⟨_,rfl⟩;obtain⟨c3,n⟩:∃z,a.out-b.out=z:=⟨_,rfl⟩;obtain⟨c4,o⟩:∃z,a.to -b.to=z:=⟨_,rfl⟩;rw[h1]at v;rw[m]at y;rw[n]at A;rw[o]at B;have E:=bP (show mz a b=orI [c1,c2,c3,c4]from by rw[mz,h1,m,n,o]);have j:b8 (c.alloc (.cells (nums [c1,c2,c3,c4]).toArray 3)) (c.heap.size+1) (some ⟨c.heap.size,0,none⟩) (nums [c1,c2,c3,c4]):=fun _=>
  ⟨_,0,rfl,by omega,fun i x F=>by rw[Nat.zero_add];exact Box.new c (nums [c1,c2,c3,c4]) 3 i x F⟩
 have C:=rV [c1,c2,c3,c4] _ 4 _ (by simp[maxLen]) _ j;have D:=bP C;clear C j;go_wp2_with fail;clear a0 q a2 a3 r s t u;refine D.out.mono ?_;rintro e V ⟨rfl,l⟩;have p:=bP l;clear l h1 m n o v y A B;go_wp2_with fail;go_ret;exact⟨dL E.out.symm,_,_,_,by rw[p.out,k.out]⟩
theorem jy (a b:Arc)(c:Small a)(d:Small b)(w:World):
  Calls prog 155 #[.agg #[.int .i64 a.frm,.int .i64 a.inp,.int .i64 a.out,.int .i64 a.to],.agg #[.int .i64 b.frm,.int .i64 b.inp,.int .i64 b.out,.int .i64 b.to]] w
   fun e w'=>e= .returned (.int .i64 (mz a b))/\Below w.heap.size w w':=by
 refine(ye a b c d w).mono ?_;rintro e w' ⟨rfl,f,g,i,rfl⟩;exact⟨rfl,((bX.alloc bW _).alloc (by simp) _).alloc (by simp;omega) _⟩
theorem oC {n:Int}(g:n<=4000)(h:cD n a.frm/\cD n a.to/\dD a.inp/\dD a.out):Small a:=by
 obtain⟨⟨h1,d⟩,⟨e,f⟩,b,c⟩:=h;unfold dD at b c;unfold Small;omega
theorem Bn {l:List Arc}(c:cR l){t:Arc}{i:Nat}{b:Arc}(f:i<=j)(e:l[i]?=some a)(d:l[j]?=some b)(h:b.lt t):a.lt t:=by
 rcases Nat.eq_or_lt_of_le f with rfl |m
 .rw[e]at d;cases d;exact h
 .obtain⟨h1,g⟩:=List.getElem?_eq_some_iff.1 e;obtain⟨n,k⟩:=List.getElem?_eq_some_iff.1 d;have:=pairwise_iff_getElem.1 c i j h1 n m;rw[g,k]at this;exact Arc.lt_trans this h
theorem DU (l:List Arc)(T:Arc)(aa:Option Addr)(ac:Nat)(hl:l.length<=20000)(ae:∀a∈l,Small a)(hT:Small T)(P:cR l)(w:World)(h:b8 w w.heap.size aa (flat l)):
  Calls prog 210 #[.slice aa l.length ac,.agg #[.int .i64 T.frm,.int .i64 T.inp,.int .i64 T.out,.int .i64 T.to],.func (.func 155) #[] #[]] w
   fun e w'=>∃(c:Nat) (f:Bool),e= .returned (.tuple #[.int .i64 c,.bool f])/\c<=l.length/\(∀t a,t<c->l[t]?=some a->a.lt T)/\(∀t a,c<=t->l[t]?=some a->¬a.lt T)/\Below w.heap.size w w':=by
 obtain⟨m,F⟩:∃m:World,m=w.alloc (.cells #[.int .i64 T.frm,.int .i64 T.inp,.int .i64 T.out,.int .i64 T.to] 171):=⟨_,rfl⟩;have I:Below w.heap.size w m:=by rw[F];exact bX.alloc bW _
 have N:Blk m w.heap.size #[.int .i64 T.frm,.int .i64 T.inp,.int .i64 T.out,.int .i64 T.to] 171:=by rw[F];exact Blk.new _ _ _
 have ai:=N.lt;have B:=bP (fun(wr:World) (d:Below m.heap.size m wr)=>N.below d ai);have HC:=bP (fun(wr:World) (d:Below m.heap.size m wr) (k:Nat) (hk:k<l.length)=>by
  obtain⟨b,off,e,v,X⟩:=h.arcs (by omega);have s:=I.trans (d.mono I.size);exact(⟨b,off,e,(s.cell (p:=⟨b,off+k*4,none⟩) v).trans (X k hk).1,(s.cell (p:=⟨b,off+k*4+1,none⟩) v).trans (X k hk).2.1,
   (s.cell (p:=⟨b,off+k*4+2,none⟩) v).trans (X k hk).2.2.1,(s.cell (p:=⟨b,off+k*4+3,none⟩) v).trans (X k hk).2.2.2⟩:
   ∃b off,aa=some ⟨b,off,none⟩/\wr.cell? ⟨b,off+k*4,none⟩=some (.int .i64 l[k].frm)/\wr.cell? ⟨b,off+k*4+1,none⟩=some (.int .i64 l[k].inp)/\wr.cell? ⟨b,off+k*4+2,none⟩=some (.int .i64 l[k].out)/\wr.cell? ⟨b,off+k*4+3,none⟩=some (.int .i64 l[k].to)))
 have L:=bQ F I;have V:=bQ P ae;clear F I N P ae h;go_enter func210,ntmps210;go_wp2_with fail;rw[<-L.out.1];go_loopw [9,10] (fun i j wr=>∃c r:Nat,i= .int .i64 c/\j= .int .i64 r/\c<=r/\r<=l.length/\(∀t a,t<c->l[t]?=some a->a.lt T)/\(∀t a,r<=t->l[t]?=some a->¬a.lt T)/\Below m.heap.size m wr) (fun i j _=>(intOf j).toNat-(intOf i).toNat);case atStart=>exact⟨0,l.length,rfl,rfl,zero_le _,bW,fun t a Q=>absurd Q (not_lt_zero _),fun t a Q E=>by have:=(List.getElem?_eq_some_iff.1 E).1;omega,bX⟩
 case round=>
  obtain⟨c,r,rfl,rfl,ao,Z,ab,D,d⟩:=hrel;have J:=bQ ab D;clear ab D;have C:=B.out wr d;have t0:=C.cell 0;have t1:=C.cell 1;have t2:=C.cell 2;have t3:=C.cell 3;simp only[getElem?_toArray,getElem?_cons_zero,getElem?_cons_succ]at t0 t1 t2 t3;clear C;by_cases az:c<r
  .obtain⟨h,hh⟩:∃h,(c+r)/2=h:=⟨_,rfl⟩;have ad:h<l.length:=by omega
   have D:((c:Int)+(r:Int))/2=(h:Int):=by omega
   have au:c<=h/\h<r:=by omega
   obtain⟨b,off,rfl,x0,x1,U,x3⟩:=HC.out wr d h ad;obtain⟨x,n⟩:∃x,x=l[h]:=⟨_,rfl⟩;rw[<-n]at x0 x1 U x3;have M:=bP (show l[h]?=some x by rw[n];exact getElem?_eq_getElem ad);have H:Small x:=V.out.2 x (mem_of_getElem? M.out);have ak:=bP D;clear n D hh;go_upto_region 5 with (fail);rw[ak.out];refine wp_region_still_tail 6 (by kernel_rfl) (by kernel_rfl) ?_;simp only[take_succ_cons,take_zero,drop_succ_cons,drop_zero];repeat still_step
   refine wpStill_nil ?_;change wpList _ _ _ _ _ wr.drew;clear x0 x1 U x3 t0 t1 t2 t3 ao;obtain⟨u,R⟩:∃u,wr.drew=u:=⟨_,rfl⟩;have G:Below m.heap.size m u:=by rw[<-R];exact d.drew
   rw[R];clear R d;by_cases s:x.lt T
   .have Y:decide (mz x T<0)=true:=decide_eq_true ((tG x T).2 s);obtain⟨z,S⟩:∃z,mz x T=z:=⟨_,rfl⟩;have A:=jy x T H hT u;rw[S]at A Y;have A:=bP A;have Hx:=bP s;clear S s;go_wp2_with (go_at_call 155;refine A.out.mono ?_;rintro e g ⟨rfl,y⟩);have o:=G.trans (y.mono G.size);refine⟨⟨h+1,r,by go_num,rfl,by omega,Z,fun t a Q E=>?_,J.out.2,o⟩,by simp[intOf];omega⟩;exact Bn V.out.1 (by omega:t<=h) E M.out Hx.out
   .have Y:decide (mz x T<0)=false:=decide_eq_false (fun h=>s ((tG x T).1 h));obtain⟨z,S⟩:∃z,mz x T=z:=⟨_,rfl⟩;have A:=jy x T H hT u;rw[S]at A Y;have A:=bP A;have Hx:=bP s;clear S s;go_wp2_with (go_at_call 155;refine A.out.mono ?_;rintro e g ⟨rfl,y⟩);have o:=G.trans (y.mono G.size);refine⟨⟨c,h,rfl,rfl,by omega,by omega,J.out.1,fun t a Q E al=>Hx.out (Bn V.out.1 Q M.out E al),o⟩,by simp[intOf];omega⟩
  .obtain rfl:c=r:=by omega
   have O:=L.out.2.trans (d.mono L.out.2.size);by_cases hn:c<l.length
   .obtain⟨b,off,rfl,x0,x1,U,x3⟩:=HC.out wr d c hn;obtain⟨x,n⟩:∃x,x=l[c]:=⟨_,rfl⟩;rw[<-n]at x0 x1 U x3;have H:Small x:=V.out.2 x (by rw[n];exact getElem_mem hn);have HY:=bP (fun(g:World) (v:Below m.heap.size m g)=>by
     obtain⟨b',aw,e',y0,y1,y2,y3⟩:=HC.out g v c hn;cases e'
     rw[<-n]at y0 y1 y2 y3;exact(⟨y0,y1,y2,y3,(B.out g v).cell 0,(B.out g v).cell 1,(B.out g v).cell 2,(B.out g v).cell 3⟩:
      g.cell? ⟨b,off+c*4,none⟩=some (.int .i64 x.frm)/\g.cell? ⟨b,off+c*4+1,none⟩=some (.int .i64 x.inp)/\g.cell? ⟨b,off+c*4+2,none⟩=some (.int .i64 x.out)/\g.cell? ⟨b,off+c*4+3,none⟩=some (.int .i64 x.to)/\
       g.cell? ⟨w.heap.size,0,none⟩=some (.int .i64 T.frm)/\g.cell? ⟨w.heap.size,1,none⟩=some (.int .i64 T.inp)/\g.cell? ⟨w.heap.size,2,none⟩=some (.int .i64 T.out)/\g.cell? ⟨w.heap.size,3,none⟩=some (.int .i64 T.to)))
    clear n;obtain⟨u,rfl⟩:∃u:World,u=wr:=⟨_,rfl⟩;go_upto_region 8 with (fail);go_cut [6,7] (fun p q wx=>p= .int .i64 c/\(∃f:Bool,q= .bool f)/\Below u.heap.size u wx);case first=>
     go_region_held3 (fun w'=>w'.cell? ⟨b,off+c*4,none⟩=some (.int .i64 x.frm)/\w'.cell? ⟨b,off+c*4+1,none⟩=some (.int .i64 x.inp)/\w'.cell? ⟨b,off+c*4+2,none⟩=some (.int .i64 x.out)/\w'.cell? ⟨b,off+c*4+3,none⟩=some (.int .i64 x.to)/\
       w'.cell? ⟨w.heap.size,0,none⟩=some (.int .i64 T.frm)/\w'.cell? ⟨w.heap.size,1,none⟩=some (.int .i64 T.inp)/\w'.cell? ⟨w.heap.size,2,none⟩=some (.int .i64 T.out)/\w'.cell? ⟨w.heap.size,3,none⟩=some (.int .i64 T.to))
      (first |exact⟨x0,x1,U,x3,t0,t1,t2,t3⟩ |exact⟨y0,y1,y2,y3,z0,z1,z2,z3⟩ |go_keep)
      (first |(go_at_call 155;refine(jy x T H hT _).mono ?_;rintro e g ⟨rfl,y⟩;have o:=d.drew.trans (y.mono d.size);obtain⟨y0,y1,y2,y3,z0,z1,z2,z3⟩:=HY.out g o))
     all_goals go_wp2_with fail
     all_goals go_meet
     all_goals exact⟨rfl,⟨_,rfl⟩,(Below.refl _ u).drew.trans y⟩
    case rest=>
     obtain⟨rfl,⟨f,rfl⟩,an⟩:=hcut;go_wp2_with fail;go_ret2;exact⟨c,f,rfl,Z,J.out.1,J.out.2,O.trans (an.mono O.size)⟩
   .obtain rfl:c=l.length:=by omega
    have Y:decide ((l.length:Int)<(l.length:Int))=false:=bY;go_upto_region 8 with (fail);go_quiet (fail);go_wp2_with fail;go_ret2;exact⟨l.length,false,rfl,bW,J.out.1,J.out.2,Go.below_drewN O _⟩
end
end Go.Proofs.YtmhdgddjeadjjaaGreatDoor
