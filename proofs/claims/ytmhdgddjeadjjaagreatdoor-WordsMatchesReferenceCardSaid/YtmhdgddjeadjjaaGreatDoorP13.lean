/- A part of the proof: what the claim reaches. -/
import Derived.Test.YtmhdgddjeadjjaaGreatDoorP08
import Derived.Test.YtmhdgddjeadjjaaGreatDoorP10
namespace Go.Proofs.YtmhdgddjeadjjaaGreatDoor
open _root_.List Go.Lib _root_.Nat Go.World _root_.Int Go.Proofs.Tryz
variable {b:Nat}{w:World}
section
open Go.RowKit Classical
set_option maxRecDepth 100000
set_option maxHeartbeats 2000000
theorem BG (s:ByteArray)(u:s.size<=maxLen)(w:World):
  Calls prog 136 #[.string s] w fun e w'=>e= .returned (.bool (df (bl s)))/\Below w.heap.size w w':=by
 go_enter func136,ntmps136;go_wp2_with fail;refine(ti s u w).mono ?_;rintro e v ⟨y,c,err,off,T,rfl,q,j,k,i⟩;have d:=bP k;clear k;by_cases he:err=0
 .subst he;by_cases h1:T.length=1
  .obtain⟨t,rfl⟩:∃t,T=[t]:=by
    cases T with
    |nil=>simp at h1
    |cons t r=>cases r with
     |nil=>exact⟨t,rfl⟩
     |cons a b=>simp at h1
   obtain⟨b,o,rfl,_,m⟩:=j (by simp[gy,Tok.cells,cL]);have c0:=m 0 (.int .i64 t.kind) (by simp[gy,Tok.cells,cL]);have c3:=m 3 (.string t.text) (by simp[gy,Tok.cells,cL]);have x:v.cell? ⟨b,o,none⟩=some (.int .i64 t.kind):=c0;clear m h1 q j;by_cases hk:t.kind=1
   .have d1:(t.kind==1)=true:=by simp[hk]
    by_cases g:t.text=s
    .have d2:(t.text.toList==s.toList)=true:=by rw[g];simp
     have f:=bQ hk g;clear hk g;go_wp2_with fail;go_ret;refine⟨cX ?_,i⟩;rw[eq_comm,d.out];exact⟨by trivial,t,rfl,f.out.1,f.out.2⟩
    .have d2:(t.text.toList==s.toList)=false:=by
      rw[ByteArray.toList_eq,ByteArray.toList_eq,beq_eq_false_iff_ne];exact fun e=>g (cY e)
     have f:=bP g;clear hk g;go_wp2_with fail;go_ret;refine⟨cX ?_,i⟩;rw[eq_comm,<-Bool.not_eq_true,d.out];rintro⟨_,n,e,_,l⟩;obtain rfl:t=n:=by simpa using e
     exact f.out l
   .have d1:(t.kind==1)=false:=by simpa using hk
    have f:=bP hk;clear hk;go_wp2_with fail;go_ret;refine⟨cX ?_,i⟩;rw[eq_comm,<-Bool.not_eq_true,d.out];rintro⟨_,n,e,l,_⟩;obtain rfl:t=n:=by simpa using e
    exact f.out l
  .have d1:((T.length:Int)==1)=false:=by simp;omega
   have H1:=bP h1;clear h1;go_wp2_with fail;go_ret;refine⟨cX ?_,i⟩;rw[eq_comm,<-Bool.not_eq_true,d.out];rintro⟨_,t,rfl,_⟩;exact H1.out rfl
 .have d1:(err==0)=false:=by simpa using he
  have p:=bP he;clear he;go_wp2_with fail;go_ret;refine⟨cX ?_,i⟩;rw[eq_comm,<-Bool.not_eq_true,d.out];exact fun h=>p.out h.1
theorem sq (s:ByteArray)(u:s.size<=maxLen)(w:World):
  Calls prog 254 #[.string s] w fun e w'=>e= .returned (.bool (df (bl s)))/\Below w.heap.size w w':=by
 go_enter func254,ntmps254;go_wp2_with fail;refine(ti s u w).mono ?_;rintro e v ⟨y,c,err,off,T,rfl,q,j,k,i⟩;have d:=bP k;clear k;by_cases he:err=0
 .subst he;by_cases h1:T.length=1
  .obtain⟨t,rfl⟩:∃t,T=[t]:=by
    cases T with
    |nil=>simp at h1
    |cons t r=>cases r with
     |nil=>exact⟨t,rfl⟩
     |cons a b=>simp at h1
   obtain⟨b,o,rfl,_,m⟩:=j (by simp[gy,Tok.cells,cL]);have c0:=m 0 (.int .i64 t.kind) (by simp[gy,Tok.cells,cL]);have c3:=m 3 (.string t.text) (by simp[gy,Tok.cells,cL]);have x:v.cell? ⟨b,o,none⟩=some (.int .i64 t.kind):=c0;clear m h1 q j;by_cases hk:t.kind=1
   .have d1:(t.kind==1)=true:=by simp[hk]
    by_cases g:t.text=s
    .have d2:(t.text.toList==s.toList)=true:=by rw[g];simp
     have f:=bQ hk g;clear hk g;go_wp2_with fail;go_ret;refine⟨cX ?_,i⟩;rw[eq_comm,d.out];exact⟨by trivial,t,rfl,f.out.1,f.out.2⟩
    .have d2:(t.text.toList==s.toList)=false:=by
      rw[ByteArray.toList_eq,ByteArray.toList_eq,beq_eq_false_iff_ne];exact fun e=>g (cY e)
     have f:=bP g;clear hk g;go_wp2_with fail;go_ret;refine⟨cX ?_,i⟩;rw[eq_comm,<-Bool.not_eq_true,d.out];rintro⟨_,n,e,_,l⟩;obtain rfl:t=n:=by simpa using e
     exact f.out l
   .have d1:(t.kind==1)=false:=by simpa using hk
    have f:=bP hk;clear hk;go_wp2_with fail;go_ret;refine⟨cX ?_,i⟩;rw[eq_comm,<-Bool.not_eq_true,d.out];rintro⟨_,n,e,l,_⟩;obtain rfl:t=n:=by simpa using e
    exact f.out l
  .have d1:((T.length:Int)==1)=false:=by simp;omega
   have H1:=bP h1;clear h1;go_wp2_with fail;go_ret;refine⟨cX ?_,i⟩;rw[eq_comm,<-Bool.not_eq_true,d.out];rintro⟨_,t,rfl,_⟩;exact H1.out rfl
 .have d1:(err==0)=false:=by simpa using he
  have p:=bP he;clear he;go_wp2_with fail;go_ret;refine⟨cX ?_,i⟩;rw[eq_comm,<-Bool.not_eq_true,d.out];exact fun h=>p.out h.1
def fe (l:List ByteArray):List (Value×Value):=l.zipIdx.map fun p=>(.string p.1,.int .i64 (p.2:Int))
theorem sJ (l:List ByteArray)(k:Nat)(h:k<l.length):fe (l.take (k+1))=fe (l.take k)++[(.string l[k],.int .i64 (k:Int))]:=by
 have:l.take (k+1)=l.take k++[l[k]]:=by rw[take_succ_eq_append_getElem h]
 rw[this,fe,fe,zipIdx_append,map_append];simp[length_take,Nat.min_eq_left (Nat.le_of_lt h)]
theorem mQ {l:List ByteArray}{p:Value×Value}:p∈fe l↔∃(i:Nat) (s:ByteArray),l[i]?=some s/\p=(.string s,.int .i64 (i:Int)):=by
 unfold fe;rw[mem_map];constructor
 .rintro⟨⟨s,i⟩,hm,rfl⟩;rw[mem_zipIdx_iff_getElem?]at hm;exact⟨i,s,hm,rfl⟩
 .rintro⟨i,s,a,rfl⟩;exact⟨(s,i),by rw[mem_zipIdx_iff_getElem?];exact a,rfl⟩
theorem DC (w:World):(zeroValue 3).run prog w= .ok (.int .i64 0) w:=by kernel_rfl
theorem qk (w:World):(zeroValue 4).run prog w= .ok (.bool false) w:=by kernel_rfl
theorem gP {l:List ByteArray}(h:ch w b dR (fe l)){s:ByteArray}(a:s∉l):
  (Instr.lookup 135 (.map (some b)) (.string s) true).run prog w= .ok (.tuple #[.int .i64 0,.bool false]) w:=by
 have:=h.aA iP underlying135 (DC w) (oh s) (fun p hp he=>by
  obtain⟨i,t,c,rfl⟩:=mQ.1 hp;have:t=s:=by simpa using he
  subst this;exact a (mem_of_getElem? c)) true
 simpa using this
theorem gQ {l:List ByteArray}(h:ch w b dR (fe l)){s:ByteArray}{i:Nat}(a:l[i]?=some s):
  (Instr.lookup 135 (.map (some b)) (.string s) true).run prog w= .ok (.tuple #[.int .i64 (i:Int),.bool true]) w:=by
 have:=h.ar (t:=135) iP underlying135 (mQ.2 ⟨i,s,a,rfl⟩) true;simpa using this
def nL (A:cr)(w:World)(e:Ending)(w':World):Prop:=
 ∃m,e= .returned (.tuple #[m,.bool (decide (dA A))])/\(dA A->∃b,m= .map (some b)/\w.heap.size<=b/\ch w' b dR (fe A.letters))/\Below w.heap.size w w'
theorem ft {A:cr}{w':World}(h:¬dA A)(a:Below w.heap.size w w'):nL A w (.returned (.tuple #[.map none,.bool false])) w':=
 ⟨.map none,by rw[decide_eq_false h],fun b=>absurd b h,a⟩
theorem Ab {A:cr}{w':World}(h:dA A)(a:w.heap.size<=b)(hm:ch w' b dR (fe A.letters))(c:Below w.heap.size w w'):nL A w (.returned (.tuple #[.map (some b),.bool true])) w':=
 ⟨.map (some b),by rw[decide_eq_true h],fun _=>⟨b,rfl,a,hm⟩,c⟩
theorem sM (A:cr)(v:Value)(w:World)(h:cH w w.heap.size v A):
  Calls prog 78 #[v] w (nL A w):=by
 have hA:=h;obtain⟨la,lc,sa,sc,rfl,hn,aQ,D,aS,G,aw⟩:=h;have aW:=hn;have aT:= @run_makeMap prog;unfold maxLen at aQ D hn;go_enter func78,ntmps78;go_wp2_with fail;obtain⟨T,E⟩:∃T:World,T=(w.alloc (.cells #[.string A.name,.slice la A.letters.length lc,.slice sa A.small.length sc] 83)):=⟨_,rfl⟩;rw[<-E];have Y:Below w.heap.size w T:=by rw[E];exact bX.alloc bW _
 have bk:T.heap.size=w.heap.size+1:=by rw[E];simp
 have ak:Box T w.heap.size [.string A.name,.slice la A.letters.length lc,.slice sa A.small.length sc]:=by rw[E];exact Box.new _ _ _
 clear E;refine(BG A.name aW _).mono ?_;rintro e f ⟨rfl,N⟩;have n:=Y.trans (N.mono Y.size);have B:=ak.below N (by omega);have aP:=G.below n bW;have aE:=aw.below n bW;have ba:=N.size;clear ak G aw N Y;have c1:f.cell? ⟨w.heap.size,1,none⟩=some (.slice la A.letters.length lc):=B 1 _ rfl;have c2:f.cell? ⟨w.heap.size,2,none⟩=some (.slice sa A.small.length sc):=B 2 _ rfl;by_cases d:df (bl A.name)=true
 .by_cases hlen:(1<=A.letters.length/\A.letters.length<=64)/\A.small.length=A.letters.length
  .obtain⟨⟨aV,aD⟩,X⟩:=hlen;have hq:((A.small.length:Int) != A.letters.length)=false:=by simp[X]
   have bb:A.small.length<=A.letters.length/\A.letters.length<=A.small.length:=by omega
   rw[d];have aL:=bP X;have aa:=bP d;have aN:(f.alloc (.map #[] 0)).cell? ⟨w.heap.size,1,none⟩=some (.slice la A.letters.length lc):=(B.alloc (by omega) (.map #[] 0)) 1 _ rfl;clear X d;go_wp2_with fail;clear aN;obtain⟨b,off,rfl,hb,L⟩:=aP.strs (by omega);obtain⟨b',aF,rfl,bh,al⟩:=aE.nums (by omega);have U:ch (f.alloc (.map #[] 0)) f.heap.size dR (fe (A.letters.take 0)):=ch.made f dR;have ai:Below f.heap.size f (f.alloc (.map #[] 0)):=bX.alloc bW _;generalize f.alloc (.map #[] 0)=W2 at U ai⊢;have Hc:=bP (fun(wr:World) (g:Below f.heap.size f wr) i (o:i<A.letters.length)=>(g.cell (p:=⟨b,off+i,none⟩) (by show b<f.heap.size;omega)).trans (L i o));have af:=bP (fun(wr:World) (g:Below f.heap.size f wr) i (o:i<A.small.length)=>(g.cell (p:=⟨b',aF+i,none⟩) (by show b'<f.heap.size;omega)).trans (al i o));have aI:=bP (fun(wr:World) (g:Below f.heap.size f wr)=>(B.below g (by omega)).c3);have az:=bP U;clear L al B c1 c2 U;go_loopw [38] (fun i wr=>∃k:Nat,k<=A.letters.length/\i= .int .i64 k/\(∀(a:Nat) l,a<k->A.letters[a]?=some l->eH l 1 3)/\(A.letters.take k).Nodup/\ch wr f.heap.size dR (fe (A.letters.take k))/\Below f.heap.size f wr) (fun i _=>A.letters.length-(intOf i).toNat);case atStart=>exact⟨0,zero_le _,rfl,by simp,by simp,az.out,ai⟩
   case round=>
    obtain⟨k,hk,rfl,aq,Q,hM,g⟩:=hrel;have ah:=bP aq;have ag:=bP Q;have Z:=bP hM;have u:=n.trans (g.mono n.size);clear aq Q hM;by_cases C:k<A.letters.length
    .have c3:=Hc.out wr g k C;have V:=aS _ (getElem_mem C);by_cases s:A.letters[k]∈A.letters.take k
     .obtain⟨i,o⟩:=getElem?_of_mem s;have aR:=gQ Z.out o;have c:=bP (show¬dA A from fun r=>by
       have Q:=r.2.2.2.2.2.2.1;obtain⟨j,hj,ao⟩:=getElem_of_mem s;rw[length_take]at hj;rw[getElem_take]at ao;have:=(getElem_inj Q).1 ao;omega)
      clear s o;go_wp2_with fail;go_ret2;exact ft c.out u
     .have aR:=gP Z.out s;by_cases hp:eH A.letters[k] 1 3
      .obtain⟨w4,a8,aj,an,aY⟩:=Z.out.aB iP underlying135 (oh A.letters[k]) (fun p hp he=>by
        obtain⟨i,t,o,rfl⟩:=mQ.1 hp;have:t=A.letters[k]:=by simpa using he
        subst this;exact s (mem_of_getElem? o)) (.int .i64 (k:Int))
       have J:=bS s hp aj;have aC:=g.grown an g.size (fun j hj=>by cases hj;exact bW);have q:=qM A.letters[k] wr V;rw[decide_eq_true hp]at q;clear s hp aj an aY;go_wp2_with (go_at_call 137;refine q.mono ?_;rintro e w' ⟨rfl,rfl⟩);refine⟨⟨k+1,by omega,by go_num,fun a l ha G=>?_,?_,?_,aC⟩,by simp[intOf];omega⟩
       .rcases Nat.lt_succ_iff_lt_or_eq.1 ha with h |rfl
        .exact ah.out a l h G
        .rw[getElem?_eq_getElem C]at G;obtain rfl:=Option.some.inj G;exact J.out.2.1
       .rw[take_succ_eq_append_getElem C];refine nodup_append.2 ⟨ag.out,by simp,fun x hx y hy e=>?_⟩;have:y=A.letters[k]:=by simpa using hy
        subst this;subst e;exact J.out.1 hx
       .rw[sJ _ _ C];exact J.out.2.2
      .have q:=qM A.letters[k] wr V;rw[decide_eq_false hp]at q;have c:=bP (show¬dA A from fun r=>hp (by
        have:=r.2.2.2.2.1 _ (getElem_mem C);exact⟨this.2.2,this.1,this.2.1⟩))
       clear s hp;go_wp2_with (go_at_call 137;refine q.mono ?_;rintro e w' ⟨rfl,rfl⟩);go_ret2;exact ft c.out u
    .obtain⟨r0,r1,r2⟩:=aI.out wr g;obtain rfl:k=A.letters.length:=by omega
     clear r0 r1 aT;go_wp2_with fail;go_loop [62] (fun i=>∃j:Nat,j<=A.small.length/\i= .int .i64 j/\(∀(a:Nat) z,a<j->A.small[a]?=some z->0<=z/\z<A.letters.length/\A.small[z.toNat]?=some z)) (fun i=>A.small.length-(intOf i).toNat);case atStart=>exact⟨0,zero_le _,rfl,by simp⟩
     case round=>
      obtain⟨j,hj,rfl,I⟩:=hrel;have Hz:=bP I;clear I;by_cases F:j<A.small.length
      .have c5:=af.out wr g j F;have O:(¬(0<=A.small[j]/\A.small[j]<A.letters.length/\A.small[A.small[j].toNat]?=some A.small[j]))->¬dA A:=fun aX r=>aX
        ⟨(r.2.2.2.2.2.1 _ (getElem_mem F)).1,(r.2.2.2.2.2.1 _ (getElem_mem F)).2,r.2.2.2.2.2.2.2 j _ (getElem?_eq_getElem F)⟩
       have M:=bP O;clear O;by_cases hr:0<=A.small[j]/\A.small[j]<A.letters.length
       .obtain⟨ar,au⟩:=hr;obtain⟨m,hm⟩:∃m:Nat,A.small[j]=(m:Int):=⟨A.small[j].toNat,by omega⟩;have P:m<A.small.length:=by omega
        have c6:=af.out wr g m P;have Hr:=bQ ar au;rw[hm]at c5;have Hm:=bP hm;have bj:m<A.letters.length:=by omega
        clear ar au hm;by_cases R:0<=A.small[m]/\A.small[m]<A.letters.length
        .obtain⟨S,D⟩:=R;by_cases he:A.small[m]=(m:Int)
         .have d1:(A.small[m] != (m:Int))=false:=by simp[he]
          have He:=bP he;clear he;go_wp2_with fail;refine⟨⟨j+1,by omega,by go_num,fun a z ha I=>?_⟩,by simp[intOf];omega⟩;rcases Nat.lt_succ_iff_lt_or_eq.1 ha with h |rfl
          .exact Hz.out a z h I
          .rw[getElem?_eq_getElem F]at I;obtain rfl:=Option.some.inj I;refine⟨Hr.out.1,Hr.out.2,?_⟩;rw[Hm.out,toNat_natCast,getElem?_eq_getElem P,He.out]
         .have d1:(A.small[m] != (m:Int))=true:=by simp[he]
          have c:=bP (M.out (fun L=>he (by
           have:=L.2.2;rw[Hm.out,toNat_natCast,getElem?_eq_getElem P]at this;exact Option.some.inj this)))
          clear he;go_wp2_with fail;go_ret2;exact ft c.out u
        .have c:=bP (show¬dA A from fun r=>R (r.2.2.2.2.2.1 _ (getElem_mem P)));by_cases S:0<=A.small[m]
         .have D:(A.letters.length:Int)<=A.small[m]:=by omega
          clear R;go_wp2_with fail;go_ret2;exact ft c.out u
         .clear R;have D:A.small[m]<0:=by omega
          clear S;go_wp2_with fail;go_ret2;exact ft c.out u
       .have c:=bP (M.out (fun L=>hr ⟨L.1,L.2.1⟩));by_cases S:0<=A.small[j]
        .have D:(A.letters.length:Int)<=A.small[j]:=by omega
         clear hr;go_wp2_with fail;go_ret2;exact ft c.out u
        .clear hr;have D:A.small[j]<0:=by omega
         clear S;go_wp2_with fail;go_ret2;exact ft c.out u
      .have ax:=bP (show dA A from⟨aa.out,aV,aD,aL.out,fun l G=>by
         obtain⟨i,o⟩:=getElem?_of_mem G;have:=ah.out i l (List.getElem?_eq_some_iff.1 o).1 o;exact⟨this.2.1,this.2.2,this.1⟩,fun z I=>by
         obtain⟨i,o⟩:=getElem?_of_mem I;have:=Hz.out i z (by have:=(List.getElem?_eq_some_iff.1 o).1;omega) o;exact⟨this.1,this.2.1⟩,by have:=ag.out;rwa [take_length]at this,fun i z o=>(Hz.out i z (by have:=(List.getElem?_eq_some_iff.1 o).1;omega) o).2.2⟩)
       go_wp2_with fail;go_ret2;refine Ab ax.out n.size ?_ u;have:=Z.out;rwa [take_length]at this
  .have c:=bP (show¬dA A from fun r=>hlen ⟨⟨r.2.1,r.2.2.1⟩,r.2.2.2.1⟩);rw[d];clear d;by_cases h1:1<=A.letters.length
   .by_cases bg:A.letters.length<=64
    .have hq:((A.small.length:Int) != A.letters.length)=true:=by simp;omega
     clear hlen;go_wp2_with fail;go_ret2;exact ft c.out n
    .clear hlen;go_wp2_with fail;go_ret2;exact ft c.out n
   .clear hlen;go_wp2_with fail;go_ret2;exact ft c.out n
 .have H:df (bl A.name)=false:=by simpa using d
  have c:=bP (show¬dA A from fun r=>d r.1);rw[H];clear d H;go_wp2_with fail;go_ret2;exact ft c.out n
def Bad (A:cr)(l:ByteArray)(n:Nat):Prop:=1<=n/\n<l.size/\l.extract 0 n∈A.letters/\eT A.bls ((bl l).drop n)
theorem jV (l:ByteArray)(n:Nat):bl (l.extract 0 n)=(bl l).take n:=by
 unfold bl;rw[extract_data];simp
theorem qS (A:cr):cG A↔dA A/\∀l∈A.letters,∀n,¬Bad A l n:=by
 unfold cG;constructor
 .rintro⟨a,h⟩;refine⟨a,fun l b n ⟨h1,v,r,s⟩=>?_⟩;obtain⟨i,c⟩:=getElem?_of_mem b;obtain⟨k,hk⟩:=getElem?_of_mem r;have q:(l.extract 0 n).size=n:=by simp;omega
  refine h i k l _ (fun e=>?_) c hk (by rw[jV];exact take_prefix _ _) (by rw[q];exact s);subst e;rw[c]at hk;have:=congrArg ByteArray.size (Option.some.inj hk);rw[q]at this;omega
 .rintro⟨a,h⟩;refine⟨a,fun i k l m p b hm hp hF=>?_⟩;have j:=hp.length_le;rw[b9,b9]at j;have g:=a.pos m (mem_of_getElem? hm);have he:l.extract 0 m.size=m:=cY (by rw[jV,<-b9];exact kD hp);refine h l (mem_of_getElem? b) m.size ⟨g,?_,by rw[he];exact mem_of_getElem? hm,hF⟩;rcases Nat.lt_or_ge m.size l.size with h1 |h1
  .exact h1
  .exfalso;have:m=l:=by rw[<-he];exact cY (by rw[jV,take_of_length_le (by rw[b9];exact h1)])
   subst this;have o:=a.2.2.2.2.2.2.1;obtain⟨t,d⟩:=List.getElem?_eq_some_iff.1 b;obtain⟨u,f⟩:=List.getElem?_eq_some_iff.1 hm;exact p ((getElem_inj o).1 (d.trans f.symm))
theorem Box.drewN {cs:List Value}(h:Box w b cs)(n:Nat):Box (w.drewN n) b cs:=h
theorem iX (A:cr)(v:Value)(w:World)(h:cH w w.heap.size v A):
  Calls prog 77 #[v] w fun e w'=>e= .returned (.bool (decide (cG A)))/\Below w.heap.size w w':=by
 have hA:=h;obtain⟨la,lc,Y,Z,rfl,hn,ak,aH,aF,x,ao⟩:=h;have aD:=ak;unfold maxLen at ak aH hn;go_enter func77,ntmps77;go_wp2_with fail;go_step3;go_wp2_with fail;obtain⟨z,p⟩:∃z:World,z=(w.alloc (.cells #[.string A.name,.slice la A.letters.length lc,.slice Y A.small.length Z] 83)):=⟨_,rfl⟩;rw[<-p];have V:Below w.heap.size w z:=by rw[p];exact bX.alloc bW _
 have aV:z.heap.size=w.heap.size+1:=by rw[p];simp
 have aj:ir z w.heap.size A:=by rw[p];exact⟨la,lc,Y,Z,Box.new _ _ _,x.alloc bW _,ao.alloc bW _⟩
 have af:cH z z.heap.size (.agg #[.string A.name,.slice la A.letters.length lc,.slice Y A.small.length Z]) A:=(hA.below V bW).more (by omega);have R:Box z w.heap.size [.string A.name,.slice la A.letters.length lc,.slice Y A.small.length Z]:=by rw[p];exact Box.new _ _ _
 clear p;refine(sM A _ _ af).mono ?_;rintro e d ⟨m,rfl,hm,H⟩;have t:=V.trans (H.mono V.size);by_cases u:dA A
 .obtain⟨b,rfl,aQ,P⟩:=hm u;rw[decide_eq_true u];have Hf:=bP u;have r:=x.below t bW;have al:=u.2.1;have J:=bP (fun l x=>u.2.2.2.2.1 l x);obtain⟨lb,off,rfl,aS,S⟩:=r.strs (by omega);have j:=aj.below H (by omega);have O:=bS j P S;have aN:=H.size;have ai:Box d w.heap.size [.string A.name,.slice (some ⟨lb,off,none⟩) A.letters.length lc,.slice Y A.small.length Z]:=R.below H (by omega);have c1:=(ai.alloc (by omega) (.cells #[fZ w.heap.size d.heap.size] 59)) 1 _ rfl;unfold fZ at c1;clear j P S u hm aj x r ao af ai R;go_wp2_with fail;go_step3;go_wp2_with fail;clear c1;obtain⟨W,Q⟩:∃W:World,W=d.alloc (.cells #[fZ w.heap.size d.heap.size] 59):=⟨_,rfl⟩;have ag:d.alloc (.cells #[.func (.func 133) #[] #[.pointer (some ⟨w.heap.size,0,none⟩),.pointer (some ⟨d.heap.size,0,none⟩)]] 59)=W:=by rw[Q];rfl
  rw[ag];have ah:Below w.heap.size w W:=by rw[Q];exact t.alloc t.size _
  have aU:W.heap.size=d.heap.size+1:=by rw[Q];simp
  obtain⟨j,P,S⟩:=O.out;have M:=bP (show ir W w.heap.size A/\Box W d.heap.size [fZ w.heap.size d.heap.size]/\ch W b dR (fe A.letters)/\(∀(i:Nat) (h:i<A.letters.length),W.cell? ⟨lb,off+i,none⟩=some (.string A.letters[i]))/\W.cell? ⟨d.heap.size,0,none⟩=some (fZ w.heap.size d.heap.size)from by
   rw[Q];exact⟨j.below (bX.alloc bW _) (by omega),Box.new _ _ _,P.alloc _,fun i B=>(cell?_alloc_lt _ _ _ (by show lb<d.heap.size;omega)).trans (S i B),Box.new d [fZ w.heap.size d.heap.size] 59 0 _ rfl⟩)
  clear j P S O Q ag;go_loopg [22] A.letters.length (fun g i wr=>∃k:Nat,k+g=A.letters.length/\i= .int .i64 k/\(∀(a:Nat) l,a<k->A.letters[a]?=some l->∀n,¬Bad A l n)/\∃q,wr=W.drewN q);case atStart=>exact⟨0,by omega,rfl,by simp,0,rfl⟩
  case round=>
   obtain⟨k,aR,rfl,aq,q,rfl⟩:=hrel;have ae:=bP aq;clear aq;cases gk with
   |zero=>
    have aC:¬((k:Int)<(A.letters.length:Int)):=by omega
    have HV:=bP (show cG A from(qS A).2 ⟨Hf.out,fun l x=>by
     obtain⟨i,B⟩:=getElem?_of_mem x;exact ae.out i l (by have:=(List.getElem?_eq_some_iff.1 B).1;omega) B⟩)
    go_wp2_with fail;try rw[Exit.noGoto_ret]
    go_ret;exact⟨dP HV.out,below_drewN' ah _⟩
   |succ g=>
    have aC:(k:Int)<(A.letters.length:Int):=by omega
    have C:k<A.letters.length:=by omega
    have T:=aF _ (getElem_mem C);have I:=J.out _ (getElem_mem C);obtain⟨l,hle⟩:∃l,A.letters[k]=l:=⟨_,rfl⟩;have c3:(W.drewN q).cell? ⟨lb,off+k,none⟩=some (.string l):=(M.out.2.2.2.1 k C).trans (by rw[hle]);rw[hle]at T I;have ad:=bP hle;have aL:1<=l.size/\l.size<=3:=⟨I.1,I.2.1⟩;clear hle I;unfold maxLen at T;go_wp2_with fail;go_loopg [8] (l.size-1) (fun g2 n wx=>∃c:Nat,1<=c/\c+g2=l.size/\n= .int .i64 c/\(∀m,m<c->¬Bad A l m)/\∃y,wx=W.drewN y);case atStart=>exact⟨1,by omega,by omega,rfl,fun m hm f=>by have:=f.1;omega,q,rfl⟩
    case round=>
     obtain⟨c,al,aT,rfl,an,y,U⟩:=hrel;have N:=bP an;have L:=bP (show ir wr w.heap.size A/\Box wr d.heap.size [fZ w.heap.size d.heap.size]/\ch wr b dR (fe A.letters)/\wr.cell? ⟨d.heap.size,0,none⟩=some (fZ w.heap.size d.heap.size)/\Below w.heap.size w wr from by
      rw[U];exact⟨M.out.1.drewN y,Box.drewN M.out.2.1 y,(M.out.2.2.1).drewN y,M.out.2.2.2.2,below_drewN' ah _⟩)
     have G:=bP U;clear an U;have F:=bP (fun(ay:∀n,¬Bad A l n)=>(show∀(a:Nat) l',a<k+1->A.letters[a]?=some l'->∀n,¬Bad A l' n from fun a l' ha r=>by
      rcases Nat.lt_succ_iff_lt_or_eq.1 ha with h |rfl
      .exact ae.out a l' h r
      .rw[getElem?_eq_getElem C,ad.out]at r;obtain rfl:=Option.some.inj r;exact ay))
     cases gk with
     |zero=>
      have aG:¬((c:Int)<(l.size:Int)):=by omega
      go_wp2_with fail;go_roundg g;case measure=>omega
      case rel=>
       refine⟨k+1,by omega,by go_num,F.out (fun n f=>?_),y,G.out⟩;have:=f.2.1;exact N.out n (by omega) f
     |succ g2=>
      have aG:(c:Int)<(l.size:Int):=by omega
      by_cases o:l.extract 0 c∈A.letters
      .obtain⟨i,B⟩:=getElem?_of_mem o;have aE:=gQ L.out.2.2.1 B;have X:bl (l.extract c l.size)=(bl l).drop c:=lr l c;have D:=fun q'=>yl A (fun l x=>(J.out l x).1) aD w.heap.size d.heap.size _ (l.extract c l.size) (lt_succ_self _) (by unfold maxLen;simp;omega) (wr.drewN q') (L.out.1.drewN q') (Box.drewN L.out.2.1 q');rw[X]at D;have aP:wr.cell? ⟨d.heap.size,0,none⟩=some (.func (.func 133) #[] #[.pointer (some ⟨w.heap.size,0,none⟩),.pointer (some ⟨d.heap.size,0,none⟩)]):=L.out.2.2.2.1;by_cases hF:eT A.bls ((bl l).drop c)
       .have au:=bP (show¬cG A from fun hv=>((qS A).1 hv).2 l (by rw[<-ad.out];exact getElem_mem C) c ⟨al,by omega,o,hF⟩);rw[decide_eq_true hF]at D;have E:=bP D;clear hF X o B D;go_wp2_with fail;go_quiet ((go_at_call 133;exact Calls.quiet_of_same (E.out _)));go_wp2_with fail;try rw[Exit.noGoto_ret]
        go_ret;exact⟨cj au.out,below_drewN' L.out.2.2.2.2 _⟩
       .have aB:=bP (show¬Bad A l c from fun f=>hF f.2.2.2);rw[decide_eq_false hF]at D;have E:=bP D;clear hF X o B D;have s:=bP (show∀m,m<c+1->¬Bad A l m from fun m hm=>by
         rcases Nat.lt_succ_iff_lt_or_eq.1 hm with h |rfl
         .exact N.out m h
         .exact aB.out)
        by_cases h2:c=2
        .have d2:((c:Int)==2)=true:=by simp[h2]
         have ar:=bP (show∀n,¬Bad A l n from fun n f=>by
          have:=f.2.1;exact s.out n (by omega) f)
         clear h2;go_wp2_with fail;go_quiet ((go_at_call 133;exact Calls.quiet_of_same (E.out _)));go_wp2_with fail;go_roundg g;case measure=>omega
         case rel=>exact⟨k+1,by omega,by go_num,F.out ar.out,y+nq,by rw[G.out,drewN_drewN]⟩
        .have d2:((c:Int)==2)=false:=by simp;omega
         clear h2;go_wp2_with fail;go_quiet ((go_at_call 133;exact Calls.quiet_of_same (E.out _)));go_wp2_with fail;go_roundg g2;case measure=>omega
         case rel=>exact⟨c+1,by omega,by omega,by go_num,s.out,y+nq,by rw[G.out,drewN_drewN]⟩
      .have aE:=gP L.out.2.2.1 o;have s:=bP (show∀m,m<c+1->¬Bad A l m from fun m hm=>by
         rcases Nat.lt_succ_iff_lt_or_eq.1 hm with h |rfl
         .exact N.out m h
         .exact fun f=>o f.2.2.1)
       clear o;go_wp2_with fail;go_roundg g2;case measure=>omega
       case rel=>exact⟨c+1,by omega,by omega,by go_num,s.out,y,G.out⟩
 .rw[decide_eq_false u];have Hf:=bP u;clear u hm;go_wp2_with fail;try rw[Exit.noGoto_ret]
  go_ret;exact⟨cj (fun hv=>Hf.out hv.1),t⟩
end
end Go.Proofs.YtmhdgddjeadjjaaGreatDoor
