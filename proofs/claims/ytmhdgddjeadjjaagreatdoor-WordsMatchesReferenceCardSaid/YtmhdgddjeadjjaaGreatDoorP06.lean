/- GW -/
import Derived.Test.YtmhdgddjeadjjaaGreatDoorP01
namespace Go.Proofs.YtmhdgddjeadjjaaGreatDoor
open _root_.List Go.Lib _root_.Nat Go.World _root_.Int Go.Proofs.Tryz
variable {L:List (List UInt8)}{t:List UInt8}{k:Nat}{A:cr}
section
open Go.RowKit Classical
theorem kh:(prog.info? 3).map (fun i=>(i.zero,i.size,i.bytes))=some (some (.int .i64 0),1,8):=by kernel_rfl
theorem AP (L:List (List UInt8))(t:List UInt8):(atF L t=none/\atI L t= -1)\/∃k:Nat,atF L t=some k/\atI L t=k:=by
 unfold atI;cases h:atF L t with
 |none=>exact .inl ⟨rfl,rfl⟩
 |some k=>exact .inr ⟨k,rfl,rfl⟩
theorem sO (L:List (List UInt8))(f o:Nat)(acc:List Int):dc L f [] o acc=⟨acc,0,0⟩:=by
 cases f<;>simp[dc]
theorem qP (a:t≠[])(h:atF L t=none)(f o:Nat)(acc:List Int):dc L f t o acc=⟨[],3,o⟩:=by
 cases f<;>simp[dc,h,a]
theorem qO (a:t≠[])(h:atF L t=some k)(o:Nat)(acc:List Int):dc L 0 t o acc=⟨[],2,o⟩:=by
 simp[dc,h,a]
theorem kP {l:List UInt8}(b:t≠[])(h:atF L t=some k)(a:L[k]?=some l)(f o:Nat)(acc:List Int):
  dc L (f+1) t o acc=dc L f (t.drop l.length) (o+l.length) (acc++[(k:Int)]):=by
 simp[dc,h,b,a]
def eV (c:UInt8):Bool:=decide (33<=c.toNat)&&decide (c.toNat<=126)&&(c.toNat != 34)
def iq (l:List UInt8):Bool:=l.all eV
theorem oo {c:UInt8}(h1:(33:Int)<=(c.toNat:Int))(b:(c.toNat:Int)<=126)(a:((c.toNat:Int)==34)=false):eV c=true:=by
 simp at a;simp[eV];omega
theorem gA {c:UInt8}(h:(c.toNat:Int)<33\/(126:Int)<(c.toNat:Int)\/((c.toNat:Int)==34)=true):eV c=false:=by
 simp at h;simp[eV];omega
def dA (A:cr):Prop:=
 df (bl A.name)=true/\1<=A.letters.length/\A.letters.length<=64/\A.small.length=A.letters.length/\
 (∀l∈A.letters,1<=l.size/\l.size<=3/\iq (bl l)=true)/\(∀z∈A.small,0<=z/\z<A.letters.length)/\A.letters.Nodup/\
 (∀(i:Nat) z,A.small[i]?=some z->A.small[z.toNat]?=some z)
structure Cx (A:cr)(k:Nat):Prop where
 letter:∀(i:Nat) l,i<k->A.letters[i]?=some l->1<=l.size/\l.size<=3/\iq (bl l)=true
 small:∀(i:Nat) z,i<k->A.small[i]?=some z->0<=z/\z<A.letters.length
 apart:∀(i j:Nat) l,i<j->j<k->A.letters[i]?=some l->A.letters[j]?≠some l
set_option maxRecDepth 100000
set_option maxHeartbeats 1000000
theorem wQ (A:cr)(v:Value)(w:World)(h:cH w w.heap.size v A):
  Calls prog 139 #[v] w fun e w'=>e= .returned (.bool (decide (dA A)))/\Below w.heap.size w w':=by
 have hA:=h;obtain⟨la,lc,sa,sc,rfl,U,aM,aP,ba,hl,aQ⟩:=h;have H:=U;unfold maxLen at aM aP U;go_enter func139,ntmps139;by_cases f:df (bl A.name)=true
 .by_cases hlen:1<=A.letters.length/\A.letters.length<=64/\A.small.length=A.letters.length
  .obtain⟨aO,aD,ah⟩:=hlen;have hq:((A.small.length:Int) != A.letters.length)=false:=by simp[ah]
   have x:=bP ah;have s:=bP f;clear ah f;go_wp2_with (go_at_call 47;refine(fL A.name _ H).mono ?_;rintro e w1 ⟨rfl,rfl⟩;rw[s.out]);obtain⟨E,F⟩:∃E:World,E=(w.alloc (.cells #[.string A.name,.slice la A.letters.length lc,.slice sa A.small.length sc] 83)):=⟨_,rfl⟩;rw[<-F];have aA:Below w.heap.size w E:=by rw[F];exact bX.alloc bW _
   have ay:E.heap.size=w.heap.size+1:=by rw[F];simp
   obtain⟨b,off,rfl,hb,hc⟩:=hl.strs (by omega);obtain⟨b',P,rfl,aI,aJ⟩:=aQ.nums (by have:=x.out;omega);go_loopw [3] (fun i wr=>∃k:Nat,k<=A.letters.length/\i= .int .i64 k/\Cx A k/\Below E.heap.size E wr) (fun i _=>A.letters.length-(intOf i).toNat);case atStart=>exact⟨0,zero_le _,rfl,⟨by simp,by simp,by simp⟩,bX⟩
   case round=>
    obtain⟨k,hk,rfl,az,G⟩:=hrel;have o:Below w.heap.size w wr:=aA.trans (G.mono (by omega));have c1:wr.cell? ⟨w.heap.size,1,none⟩=some (.slice (some ⟨b,off,none⟩) A.letters.length lc):=(G.cell (p:=⟨w.heap.size,1,none⟩) (by simp[ay])).trans (by rw[F];simp);have c2:wr.cell? ⟨w.heap.size,2,none⟩=some (.slice (some ⟨b',P,none⟩) A.small.length sc):=(G.cell (p:=⟨w.heap.size,2,none⟩) (by simp[ay])).trans (by rw[F];simp);have Q:∀i (d:i<A.letters.length),wr.cell? ⟨b,off+i,none⟩=some (.string A.letters[i]):=fun i d=>(o.cell (p:=⟨b,off+i,none⟩) hb).trans (hc i d);have R:∀i (d:i<A.small.length),wr.cell? ⟨b',P+i,none⟩=some (.int .i64 A.small[i]):=fun i d=>(o.cell (p:=⟨b',P+i,none⟩) aI).trans (aJ i d);have t:=bP az;clear az;by_cases u:k<A.letters.length
    .have B:k<A.small.length:=by have:=x.out;omega
     have c3:=Q k u;have c4:=R k B;have al:=bP Q;clear Q R;go_wp2_with fail;by_cases C:1<=A.letters[k].size/\A.letters[k].size<=3
     .obtain⟨aB,aR⟩:=C;by_cases V:0<=A.small[k]/\A.small[k]<A.letters.length
      .obtain⟨ag,ax⟩:=V;have d1:decide ((A.letters[k].size:Int)<1)=false:=by simp;omega
       have d2:decide ((3:Int)<(A.letters[k].size:Int))=false:=by simp;omega
       have d3:decide (A.small[k]<0)=false:=by simp;omega
       have d4:decide ((A.letters.length:Int)<=A.small[k])=false:=by simp;omega
       go_quiet (fail);go_wp2_with fail;have Hs:=bQ ag ax;clear d1 d2 d3 d4 ag ax c4;obtain⟨X,J⟩:∃X:World,X=wr.drewN nq:=⟨_,rfl⟩;have a8:X.cell? ⟨w.heap.size,1,none⟩=some (.slice (some ⟨b,off,none⟩) A.letters.length lc):=by rw[J];simpa using c1
       have ar:∀i (d:i<A.letters.length),X.cell? ⟨b,off+i,none⟩=some (.string A.letters[i]):=by rw[J];simpa using al.out
       have aq:Below E.heap.size E X:=J▸Go.below_drewN G _;have D:Below w.heap.size w X:=aA.trans (aq.mono (by omega));have aF:=bP ar;rw[<-J];clear J c1 c2 c3 ar al G o;go_loop [5] (fun i=>∃j:Nat,j<=A.letters[k].size/\i= .int .i64 j/\((bl A.letters[k]).take j).all eV=true) (fun i=>A.letters[k].size-(intOf i).toNat);case atStart=>exact⟨0,zero_le _,rfl,rfl⟩
       case round=>
        obtain⟨j,hj,rfl,Z⟩:=hrel;have L:=bP Z;clear Z;by_cases y:j<A.letters[k].size
        .have hg:=bP (dU _ j y);have aa:eV A.letters[k][j]=false->¬dA A:=fun hp c=>by
          have:=(c.2.2.2.2.1 _ (getElem_mem u)).2.2;rw[iq,jR _ _ j _ hg.out hp]at this;cases this
         have M:=bP aa;clear aa;go_wp2
         .have h1:(((A.letters[k][j].toNat:Int)<33\/(126:Int)<(A.letters[k][j].toNat:Int))\/((A.letters[k][j].toNat:Int)==34)=true):=by assumption
          go_ret;exact⟨cj (M.out (gA (by rcases h1 with (h |h) |h<;>simp[h]))),D⟩
         .have h1:(((33:Int)<=(A.letters[k][j].toNat:Int)/\(A.letters[k][j].toNat:Int)<=126)/\((A.letters[k][j].toNat:Int)==34)=false):=by assumption
          refine⟨⟨j+1,by omega,by go_num,?_⟩,by simp[intOf];omega⟩;rw[jx _ _ j _ hg.out,L.out,oo h1.1.1 h1.1.2 h1.2];rfl
         .have h1:(126:Int)<(A.letters[k][j].toNat:Int):=by assumption
          go_ret;exact⟨cj (M.out (gA (.inr (.inl h1)))),D⟩
         .have h1:(A.letters[k][j].toNat:Int)<33:=by assumption
          go_ret;exact⟨cj (M.out (gA (.inl h1))),D⟩
        .have aw:iq (bl A.letters[k])=true:=by
          have:=L.out;rwa [take_of_length_le (by rw[b9];omega)]at this
         have aH:=bP aw;clear aw L;go_wp2_with fail;go_loop [6] (fun i=>∃m:Nat,m<=k/\i= .int .i64 m/\(∀(a:Nat) l,a<m->A.letters[a]?=some l->l≠A.letters[k])) (fun i=>k-(intOf i).toNat);case atStart=>exact⟨0,zero_le _,rfl,by simp⟩
         case round=>
          obtain⟨m,hm,rfl,ao⟩:=hrel;have ak:=bP ao;clear ao;by_cases aN:m<k
          .have ae:m<A.letters.length:=by omega
           have c5:=aF.out m ae;by_cases he:A.letters[m]=A.letters[k]
           .have aK:(A.letters[m].toList==A.letters[k].toList)=true:=by rw[he];simp
            have N:=bP he;clear he;go_wp2;go_ret;refine⟨cj fun c=>?_,D⟩;exact pairwise_iff_getElem.1 c.2.2.2.2.2.2.1 m k ae u aN N.out
           .have aK:(A.letters[m].toList==A.letters[k].toList)=false:=by
             rw[ByteArray.toList_eq,ByteArray.toList_eq,beq_eq_false_iff_ne];exact fun e=>he (cY e)
            have N:=bP he;clear he;go_wp2;refine⟨⟨m+1,by omega,by go_num,fun a l O g=>?_⟩,by simp[intOf];omega⟩;rcases Nat.lt_succ_iff_lt_or_eq.1 O with O |rfl
            .exact ak.out a l O g
            .rw[getElem?_eq_getElem ae]at g;obtain rfl:=Option.some.inj g;exact N.out
          .obtain rfl:m=k:=by omega
           go_wp2;refine⟨⟨m+1,by omega,by go_num,⟨fun i l d g=>?_,fun i z d r=>?_,fun i j l T hj g ad=>?_⟩,aq⟩,by simp[intOf];omega⟩
           .rcases Nat.lt_succ_iff_lt_or_eq.1 d with d |rfl
            .exact t.out.letter i l d g
            .rw[getElem?_eq_getElem u]at g;obtain rfl:=Option.some.inj g;exact⟨aB,aR,aH.out⟩
           .rcases Nat.lt_succ_iff_lt_or_eq.1 d with d |rfl
            .exact t.out.small i z d r
            .rw[getElem?_eq_getElem B]at r;obtain rfl:=Option.some.inj r;exact Hs.out
           .rcases Nat.lt_succ_iff_lt_or_eq.1 hj with hj |rfl
            .exact t.out.apart i j l T hj g ad
            .rw[getElem?_eq_getElem u]at ad;obtain rfl:=Option.some.inj ad;exact ak.out i _ T g rfl
      .by_cases ag:0<=A.small[k]
       .have d1:decide ((A.letters[k].size:Int)<1)=false:=bY;have d2:decide ((3:Int)<(A.letters[k].size:Int))=false:=bY;have d3:decide (A.small[k]<0)=false:=bY;have d4:decide ((A.letters.length:Int)<=A.small[k])=true:=bZ;go_quiet (fail);go_wp2;go_ret;exact⟨cj fun c=>V (c.2.2.2.2.2.1 _ (getElem_mem B)),Go.below_drewN o _⟩
       .have d1:decide ((A.letters[k].size:Int)<1)=false:=bY;have d2:decide ((3:Int)<(A.letters[k].size:Int))=false:=bY;have d3:decide (A.small[k]<0)=true:=bZ;go_quiet (fail);go_wp2;go_ret;exact⟨cj fun c=>V (c.2.2.2.2.2.1 _ (getElem_mem B)),Go.below_drewN o _⟩
     .by_cases aB:1<=A.letters[k].size
      .have d1:decide ((A.letters[k].size:Int)<1)=false:=bY;have d2:decide ((3:Int)<(A.letters[k].size:Int))=true:=bZ;go_quiet (fail);go_wp2;go_ret;exact⟨cj fun c=>C (by have:=c.2.2.2.2.1 _ (getElem_mem u);omega),Go.below_drewN o _⟩
      .have d1:decide ((A.letters[k].size:Int)<1)=true:=bZ;go_quiet (fail);go_wp2;go_ret;exact⟨cj fun c=>C (by have:=c.2.2.2.2.1 _ (getElem_mem u);omega),Go.below_drewN o _⟩
    .obtain rfl:k=A.letters.length:=by omega
     go_wp2_with fail;have an:=bP R;clear R Q;go_loopw [7] (fun i wx=>∃j:Nat,j<=A.small.length/\i= .int .i64 j/\(∀(a:Nat) z,a<j->A.small[a]?=some z->A.small[z.toNat]?=some z)/\∃q,wx=wr.drewN q) (fun i _=>A.small.length-(intOf i).toNat);case atStart=>exact⟨0,zero_le _,rfl,by simp,0,rfl⟩
     case round=>
      obtain⟨j,hj,rfl,S,q,rfl⟩:=hrel;have Y:=bP S;clear S;by_cases y:j<A.small.length
      .have V:=t.out.small j _ (by have:=x.out;omega) (getElem?_eq_getElem y);obtain⟨n,U⟩:∃n:Nat,A.small[j]=(n:Int):=⟨A.small[j].toNat,by omega⟩;have c4:=an.out j y;rw[U]at c4 V;have af:n<A.small.length:=by have:=x.out;omega
       have c5:=an.out n af;have Hn:=bP U;clear U V;by_cases he:A.small[n]=(n:Int)
       .have d1:((A.small[n]:Int) != (n:Int))=false:=by simp[he]
        have N:=bP he;clear he;go_wp2_with fail;go_quiet (fail);go_wp2;refine⟨⟨j+1,by omega,by go_num,fun a z O r=>?_,q+nq,rfl⟩,by simp[intOf];omega⟩;rcases Nat.lt_succ_iff_lt_or_eq.1 O with O |rfl
        .exact Y.out a z O r
        .rw[getElem?_eq_getElem y,Hn.out]at r;obtain rfl:=Option.some.inj r;rw[toNat_natCast,getElem?_eq_getElem af,N.out]
       .have d1:((A.small[n]:Int) != (n:Int))=true:=by simp[he]
        have N:=bP he;clear he;go_wp2_with fail;go_quiet (fail);go_wp2;go_ret;refine⟨cj fun c=>?_,by rw[drewN_drewN];exact Go.below_drewN o _⟩;have h1:=c.2.2.2.2.2.2.2 j _ (getElem?_eq_getElem y);rw[Hn.out,toNat_natCast,getElem?_eq_getElem af]at h1;exact N.out (Option.some.inj h1)
      .go_wp2;go_ret;refine⟨dP ⟨s.out,aO,aD,x.out,fun l g=>?_,fun z r=>?_,?_,fun i z r=>?_⟩,Go.below_drewN o _⟩
       .obtain⟨i,d,rfl⟩:=getElem_of_mem g;exact t.out.letter i _ d (getElem?_eq_getElem d)
       .obtain⟨i,d,rfl⟩:=getElem_of_mem r;exact t.out.small i _ (by have:=x.out;omega) (getElem?_eq_getElem d)
       .refine pairwise_iff_getElem.2 fun i j' d au T e=>?_;exact t.out.apart i j' _ T au (getElem?_eq_getElem d) (by rw[getElem?_eq_getElem au,e])
       .have:=(List.getElem?_eq_some_iff.1 r).1;exact Y.out i z (by omega) r
  .by_cases n1:1<=A.letters.length
   .by_cases ai:A.letters.length<=64
    .have hq:((A.small.length:Int) != A.letters.length)=true:=by
      simp;intro e;exact hlen ⟨n1,ai,by omega⟩
     go_wp2_with (go_at_call 47;refine(fL A.name _ H).mono ?_;rintro e w1 ⟨rfl,rfl⟩;rw[f]);go_ret;exact⟨cj fun c=>hlen ⟨n1,ai,c.2.2.2.1⟩,bX.alloc bW _⟩
    .go_wp2_with (go_at_call 47;refine(fL A.name _ H).mono ?_;rintro e w1 ⟨rfl,rfl⟩;rw[f]);go_ret;exact⟨cj fun c=>ai c.2.2.1,bX.alloc bW _⟩
   .go_wp2_with (go_at_call 47;refine(fL A.name _ H).mono ?_;rintro e w1 ⟨rfl,rfl⟩;rw[f]);go_ret;exact⟨cj fun c=>n1 c.2.1,bX.alloc bW _⟩
 .have I:df (bl A.name)=false:=by simpa using f
  have s:=bP I;clear I;go_wp2_with (go_at_call 47;refine(fL A.name _ H).mono ?_;rintro e w1 ⟨rfl,rfl⟩;rw[s.out]);go_ret;exact⟨cj fun c=>f c.1,bX.alloc bW _⟩
def cG (A:cr):Prop:=
 dA A/\∀(i k:Nat) l m,i≠k->A.letters[i]?=some l->A.letters[k]?=some m->bl m<+:bl l->¬eT A.bls ((bl l).drop m.size)
theorem dA.pos (h:dA A):∀l∈A.letters,1<=l.size:=fun l a=>(h.2.2.2.2.1 l a).1
theorem dA.len (h:dA A):∀l∈A.bls,1<=l.length/\l.length<=3:=fun l a=>by
 obtain⟨m,hm,rfl⟩:=mem_map.1 a;have:=h.2.2.2.2.1 m hm;rw[b9];omega
theorem dA.nodup (h:dA A):A.bls.Nodup:=
 pairwise_map.2 (h.2.2.2.2.2.2.1.imp fun a e=>a (cY e))
def jF (A:cr)(n:Nat)(k:Nat):Prop:=
 (∀(i k:Nat) l m,i<n->i≠k->A.letters[i]?=some l->A.letters[k]?=some m->bl m<+:bl l->¬eT A.bls ((bl l).drop m.size))/\
 (∀(j:Nat) l m,j<k->n≠j->A.letters[n]?=some l->A.letters[j]?=some m->bl m<+:bl l->¬eT A.bls ((bl l).drop m.size))
theorem jF.step {n:Nat}(h:jF A n k)(hk:k<A.letters.length)(e:n<A.letters.length)(d:n≠k->bl A.letters[k]<+:bl A.letters[n]->¬eT A.bls ((bl A.letters[n]).drop A.letters[k].size)):
  jF A n (k+1):=by
 refine⟨h.1,fun j l m b a c hm hp=>?_⟩;rcases Nat.lt_succ_iff_lt_or_eq.1 b with b |rfl
 .exact h.2 j l m b a c hm hp
 .rw[getElem?_eq_getElem hk]at hm;obtain rfl:=Option.some.inj hm;rw[getElem?_eq_getElem e]at c;obtain rfl:=Option.some.inj c;exact d a hp
theorem jF.next {n:Nat}(h:jF A n A.letters.length):jF A (n+1) 0:=by
 refine⟨fun i k l m b a c hm hp=>?_,fun j l m d=>by omega⟩;rcases Nat.lt_succ_iff_lt_or_eq.1 b with b |rfl
 .exact h.1 i k l m b a c hm hp
 .exact h.2 k l m (List.getElem?_eq_some_iff.1 hm).1 a c hm hp
theorem jm (A:cr)(v:Value)(w:World)(h:cH w w.heap.size v A):
  Calls prog 80 #[v] w fun e w'=>e= .returned (.bool (decide (cG A)))/\Below w.heap.size w w':=by
 have P:=h;obtain⟨la,lc,sa,sc,rfl,V,S,J,T,D,ah⟩:=h;unfold maxLen at S J V;go_enter func80,ntmps80;go_wp2_with fail;refine(wQ A _ _ ((P.alloc bW _).more (by simp))).mono ?_;rintro e f ⟨rfl,g⟩;have s:Below w.heap.size w f:=(bX.alloc bW _).trans (g.mono (by simp));have J:w.heap.size+1<=f.heap.size:=by have:=g.size;simpa using this
 by_cases x:dA A
 .rw[decide_eq_true x];have c0:f.cell? ⟨w.heap.size,0,none⟩=some (.string A.name):=(g.cell (p:=⟨w.heap.size,0,none⟩) (by simp)).trans (by simp);have c1:f.cell? ⟨w.heap.size,1,none⟩=some (.slice la A.letters.length lc):=(g.cell (p:=⟨w.heap.size,1,none⟩) (by simp)).trans (by simp);have c2:f.cell? ⟨w.heap.size,2,none⟩=some (.slice sa A.small.length sc):=(g.cell (p:=⟨w.heap.size,2,none⟩) (by simp)).trans (by simp);clear g;go_wp2_with fail;obtain⟨b,off,rfl,hb,R⟩:=D.strs (by have:=x.2.1;omega);have I:=fun wr (a:Below f.heap.size f wr) i (hi:i<A.letters.length)=>(a.cell (p:=⟨b,off+i,none⟩) (by simp;omega)).trans ((s.cell (p:=⟨b,off+i,none⟩) hb).trans (R i hi));have F:=bP I;have C:=bS c0 c1 c2;have M:=bP x;clear R I x c0 c1 c2;go_loopw [3] (fun i wr=>∃n:Nat,n<=A.letters.length/\i= .int .i64 n/\jF A n 0/\Below f.heap.size f wr) (fun i _=>A.letters.length-(intOf i).toNat);case atStart=>exact⟨0,zero_le _,rfl,⟨fun i k l m h=>by omega,fun j l m h=>by omega⟩,bX⟩
  case round=>
   obtain⟨n,V,rfl,Y,a⟩:=hrel;have G:=bP Y;have z:Below w.heap.size w wr:=s.trans (a.mono (by omega));have c1:=(a.cell (p:=⟨w.heap.size,1,none⟩) (by simp;omega)).trans C.out.2.1;by_cases o:n<A.letters.length
   .go_wp2_with fail;obtain⟨E,rfl⟩:∃E:World,E=wr:=⟨_,rfl⟩;go_loopw [4] (fun i wr=>∃k:Nat,k<=A.letters.length/\i= .int .i64 k/\jF A n k/\Below E.heap.size E wr) (fun i _=>A.letters.length-(intOf i).toNat);case atStart=>exact⟨0,zero_le _,rfl,G.out,bX⟩
    case round=>
     obtain⟨k,hk,rfl,y,c⟩:=hrel;have q:=bP y;clear y;have d:Below f.heap.size f wr:=a.trans (c.mono a.size);have B:Below w.heap.size w wr:=z.trans (c.mono z.size);have L:=B.size;have c0:=(d.cell (p:=⟨w.heap.size,0,none⟩) (by simp;omega)).trans C.out.1;have c1:=(d.cell (p:=⟨w.heap.size,1,none⟩) (by simp;omega)).trans C.out.2.1;have c2:=(d.cell (p:=⟨w.heap.size,2,none⟩) (by simp;omega)).trans C.out.2.2;by_cases r:k<A.letters.length
     .have cn:=F.out wr d n o;have ck:=F.out wr d k r;go_wp2_with fail;by_cases u:n=k
      .have d1:((n:Int) != (k:Int))=false:=by simp[u]
       have N:=bP u;clear u;go_quiet (fail);go_wp2;exact⟨⟨k+1,by omega,by go_num,q.out.step r o (fun h=>absurd N.out h),Go.below_drewN c _⟩,by simp[intOf];omega⟩
      .have d1:((n:Int) != (k:Int))=true:=by simp;omega
       by_cases hp:bl A.letters[k]<+:bl A.letters[n]
       .have hle:A.letters[k].size<=A.letters[n].size:=by have:=hp.length_le;rwa [b9,b9]at this
        have U:=T _ (getElem_mem o);unfold maxLen at U;refine wp_region_still_tail 14 (by kernel_rfl) (by kernel_rfl) ?_;simp only[take_succ_cons,take_zero,drop_succ_cons,drop_zero];repeat (first |still_step |still_call (jU _ _ hp _))
        refine wpStill_nil ?_;change wpList _ _ _ _ _ wr.drew;have Z:(A.letters[n].extract A.letters[k].size A.letters[n].size).size<=maxLen:=by unfold maxLen;simp;omega
        have Q:cH wr.drew wr.drew.heap.size (.agg #[.string A.name,.slice (some ⟨b,off,none⟩) A.letters.length lc,.slice sa A.small.length sc]) A:=
         (P.below B.drew bW).more L
        have O:=bP (lr A.letters[n] A.letters[k].size);go_wp2_with fail;refine(uY A M.out.pos _ _ (lt_succ_self _) Z _ _ Q).mono ?_;rintro e w2 ⟨rfl,H⟩;rw[O.out];by_cases t:eT A.bls ((bl A.letters[n]).drop A.letters[k].size)
        .rw[decide_eq_true t];go_wp2;go_ret;exact⟨cj fun hv=>hv.2 n k _ _ u (getElem?_eq_getElem o) (getElem?_eq_getElem r) hp t,B.drew.trans (H.mono L)⟩
        .rw[decide_eq_false t];go_wp2;exact⟨⟨k+1,by omega,by go_num,q.out.step r o (fun _ _=>t),c.drew.trans (H.mono c.size)⟩,by simp[intOf];omega⟩
       .go_quiet ((go_at_call 140;exact Calls.quiet_of_same (mU _ _ hp _)));go_wp2;exact⟨⟨k+1,by omega,by go_num,q.out.step r o (fun _ h=>absurd h hp),Go.below_drewN c _⟩,by simp[intOf];omega⟩
     .obtain rfl:k=A.letters.length:=by omega
      go_wp2;exact⟨⟨n+1,by omega,by go_num,q.out.next,a.trans (c.mono a.size)⟩,by simp[intOf];omega⟩
   .go_wp2;go_ret;refine⟨dP ⟨M.out,fun i k l m X D hm hp=>?_⟩,z⟩;have:=(List.getElem?_eq_some_iff.1 D).1;exact G.out.1 i k l m (by omega) X D hm hp
 .rw[decide_eq_false x];go_wp2;go_ret;exact⟨cj fun h=>x h.1,s⟩
theorem wu (x y:Rul)(w:World):(binOp .eql 88 (.agg #[.string x.src,.string x.dst,.string x.nxt,.bool x.fin]) (.agg #[.string y.src,.string y.dst,.string y.nxt,.bool y.fin])).run prog w= .ok (.bool (decide (x=y))) w:=by
 have m:prog.underlying 88=some (.struct (prog.fieldsOf 88)):=by kernel_rfl
 have hp:prog.stoodInHeld 88=false:=by kernel_rfl
 rw[run_eql_struct,show(10000:Nat)=9999+1 from rfl,run_equalIn_agg w 9999 88 _ _ m hp];simp only[Program.fieldsOf,underlying88];go_simp;have n:∀a b:ByteArray,a.toList=b.toList↔a=b:=fun a b=>by
  rw[ByteArray.toList_eq,ByteArray.toList_eq];exact⟨fun h=>cY h,fun h=>by rw[h]⟩
 obtain⟨a,b,c,d⟩:=x;obtain⟨e,f,g,i⟩:=y;simp only[Rul.mk.injEq];simp only[n];by_cases h1:a=e<;>by_cases j:b=f<;>by_cases k:c=g<;>simp[h1,j,k];by_cases l:d=i<;>simp[l]
theorem zO (op:BinOp)(a b:Operand)(x y:Array Value)(w:World):(eqGuard op 88 a b (.agg x) (.agg y)).run prog w= .ok () w:=
 run_eqGuard_agg w op _ a b x y (by kernel_rfl)
def eH (s:ByteArray)(a b:Nat):Prop:=iq (bl s)=true/\a<=s.size/\s.size<=b
end
end Go.Proofs.YtmhdgddjeadjjaaGreatDoor
