/- A part of the proof: what the claim reaches. -/
import Derived.Test.YtmhdgddjeadjjaaGreatDoorP19
import Derived.Test.YtmhdgddjeadjjaaGreatDoorP22
namespace Go.Proofs.YtmhdgddjeadjjaaGreatDoor
open _root_.List Go.Lib _root_.Nat Go.World _root_.Int Go.Proofs.Tryz
variable {ts:List ByteArray}{Bt cm:Nat}
section
open Go.RowKit Classical
def Sht.cells (s:Sht):List Value:=[.string s.lang,.string s.short,.string s.full,.int .i64 s.cost]
def gT (s:Sht):Value:= .agg #[.string s.lang,.string s.short,.string s.full,.int .i64 s.cost]
def Sht.fits (s:Sht):Prop:=s.lang.size<=maxLen/\s.short.size<=maxLen/\s.full.size<=maxLen
theorem c8.a7 {w:World}{B:Nat}{a:Option Addr}{l:List Sht}(h:c8 w B 4 a (l.map Sht.cells))(j:0<l.length):
  ∃b off,a=some ⟨b,off,none⟩/\b<B/\∀i (d:i<l.length),w.cell? ⟨b,off+i*4,none⟩=some (.string l[i].lang)/\w.cell? ⟨b,off+i*4+1,none⟩=some (.string l[i].short)/\
   w.cell? ⟨b,off+i*4+2,none⟩=some (.string l[i].full)/\w.cell? ⟨b,off+i*4+3,none⟩=some (.int .i64 l[i].cost):=by
 obtain⟨b,off,e,f,g⟩:=h (by simpa using j);refine⟨b,off,e,f,fun i d=>?_⟩;have c:=g i l[i].cells (by simp[d]);exact⟨c 0 _ rfl,c 1 _ rfl,c 2 _ rfl,c 3 _ rfl⟩
def qq (v:Value):Prop:=∃x,v=gT x
theorem xG {x y:Sht}(h:gT x=gT y):x=y:=by
 cases x;cases y;simpa [gT]using h
theorem Ej {x y:Sht}:gT x=gT y↔x=y:=⟨xG,fun h=>by rw[h]⟩
theorem rM {x:Sht}{l:List Sht}:gT x∈l.map gT↔x∈l:=by
 rw[mem_map];constructor
 .rintro⟨y,a,e⟩;exact xG e▸a
 .intro h;exact⟨x,h,rfl⟩
theorem yM (x y:Sht)(w:World):(binOp .eql 51 (.agg #[.string x.lang,.string x.short,.string x.full,.int .i64 x.cost]) (.agg #[.string y.lang,.string y.short,.string y.full,.int .i64 y.cost])).run prog w= .ok (.bool (decide (x=y))) w:=by
 have m:prog.underlying 51=some (.struct (prog.fieldsOf 51)):=by kernel_rfl
 have hp:prog.stoodInHeld 51=false:=by kernel_rfl
 rw[run_eql_struct,show(10000:Nat)=9999+1 from rfl,run_equalIn_agg w 9999 51 _ _ m hp];simp only[Program.fieldsOf,underlying51];go_simp;have n:∀a b:ByteArray,a.toList=b.toList↔a=b:=fun a b=>by
  rw[ByteArray.toList_eq,ByteArray.toList_eq];exact⟨fun h=>cY h,fun h=>by rw[h]⟩
 obtain⟨a,b,c,d⟩:=x;obtain⟨e,f,g,i⟩:=y;simp only[Sht.mk.injEq];simp only[n];by_cases h1:a=e<;>by_cases j:b=f<;>by_cases k:c=g<;>simp[h1,j,k];by_cases l:d=i<;>simp[l]
set_option maxRecDepth 100000
theorem Bu:jh prog 51 qq:=by
 have b:prog.underlying 51=some (.struct (prog.fieldsOf 51)):=by kernel_rfl
 refine iv b ?_ ?_ ?_ ?_
 .rintro _ _ ⟨x,rfl⟩ ⟨y,rfl⟩;rfl
 .rintro em w _ ⟨x,rfl⟩;unfold gT;rw[show(10000:Nat)=9998+1+1 from rfl,Instr.checkKey];simp only[Sem.run_bind,run_underlying underlying51,Result.andThen_ok];rw[<-Array.forIn_toList];go_simp;simp only[mI,mH,Result.andThen_ok]
 .rintro _ ⟨x,rfl⟩;have c:=fun a:ByteArray=>(MapKept.bytes_beq a a).2 rfl;simp[gT,Instr.sameBits,c]
 .rintro w _ _ ⟨x,rfl⟩ ⟨y,rfl⟩;have:=iL (yM x y w);rw[show(Op.equal 51 (gT x) (gT y)).run prog w= .ok (decide (x=y)) w from this];congr 1;rw[decide_eq_decide,Ej]
def Sht.ok (s:Sht):Prop:=df (bl s.lang)=true/\eY s.short 24/\eY s.full 24/\0<=s.cost/\s.cost<=1000
set_option maxHeartbeats 4000000
theorem nM (l:List Sht)(la:Option Addr)(lc:Nat)(aR:l.length<=maxLen)(ay:∀s∈l,s.fits)(w:World)(hl:c8 w w.heap.size 4 la (l.map Sht.cells)):
  Calls prog 16 #[.slice la l.length lc] w fun e w'=>e= .returned (.bool (decide (dS l)))/\Below w.heap.size w w':=by
 have aT:= @run_makeMap prog;unfold maxLen at aR;go_enter func16,ntmps16;go_wp2_with fail;have ab:cy (w.alloc (.map #[] 0)) w.heap.size qq (([]:List Sht).map gT):=cy.made w qq;have aM:Below w.heap.size w (w.alloc (.map #[] 0)):=bX.alloc bW _;have aE:=bP ab;have aK:=bP (fun(wr:World) (f:Below w.heap.size w wr) (k:Nat) (hk:k<l.length)=>(show∃b off,la=some ⟨b,off,none⟩/\wr.cell? ⟨b,off+k*4,none⟩=some (.string l[k].lang)/\wr.cell? ⟨b,off+k*4+1,none⟩=some (.string l[k].short)/\
   wr.cell? ⟨b,off+k*4+2,none⟩=some (.string l[k].full)/\wr.cell? ⟨b,off+k*4+3,none⟩=some (.int .i64 l[k].cost)from by
  obtain⟨b,off,e,hb,hc⟩:=hl.a7 (by omega);have:=hc k hk;exact⟨b,off,e,(f.cell (p:=⟨b,off+k*4,none⟩) (by show b<_;omega)).trans this.1,(f.cell (p:=⟨b,off+k*4+1,none⟩) (by show b<_;omega)).trans this.2.1,(f.cell (p:=⟨b,off+k*4+2,none⟩) (by show b<_;omega)).trans this.2.2.1,(f.cell (p:=⟨b,off+k*4+3,none⟩) (by show b<_;omega)).trans this.2.2.2⟩))
 clear ab hl aT;go_loopw [9] (fun i wr=>∃k:Nat,k<=l.length/\i= .int .i64 k/\(∀(a:Nat) r,a<k->l[a]?=some r->r.ok)/\(l.take k).Nodup/\cy wr w.heap.size qq ((l.take k).map gT)/\Below w.heap.size w wr/\w.heap.size<wr.heap.size) (fun i _=>l.length-(intOf i).toNat);case atStart=>exact⟨0,zero_le _,rfl,by simp,by simp,aE.out,aM,by simp⟩
 case round=>
  obtain⟨k,hk,rfl,af,J,hS,f,aS⟩:=hrel;have aa:=bP af;have Z:=bP J;have HS:=bP hS;clear af J hS;by_cases H:k<l.length
  .obtain⟨b,off,rfl,k0,k1,k2,k3⟩:=aK.out wr f k H;obtain⟨x,X⟩:∃x,l[k]=x:=⟨_,rfl⟩;have aj:x∈l:=by rw[<-X];exact getElem_mem H
   have aU:=ay x aj;rw[X]at k0 k1 k2 k3;have Hx:=bP X;clear X;obtain⟨A,n⟩:∃A:World,A=wr.alloc (.cells #[.string x.lang,.string x.short,.string x.full,.int .i64 x.cost] 51):=⟨_,rfl⟩;have ai:Blk A wr.heap.size #[.string x.lang,.string x.short,.string x.full,.int .i64 x.cost] 51:=by rw[n];exact Blk.new _ _ _
   have aO:Below wr.heap.size wr A:=by rw[n];exact bX.alloc bW _
   have ba:A.heap.size=wr.heap.size+1:=by rw[n];simp
   have L:=bP (fun(D:World) (c:Below A.heap.size A D)=>(show(D.cell? ⟨wr.heap.size,0,none⟩=some (.string x.lang)/\D.cell? ⟨wr.heap.size,1,none⟩=some (.string x.short)/\D.cell? ⟨wr.heap.size,2,none⟩=some (.string x.full)/\D.cell? ⟨wr.heap.size,3,none⟩=some (.int .i64 x.cost))/\cy D w.heap.size qq ((l.take k).map gT)/\Below w.heap.size w D/\w.heap.size<D.heap.size from by
    have U:=ai.below c (by omega);have Q:=aO.trans (c.mono (by omega));exact⟨⟨U.cell 0,U.cell 1,U.cell 2,U.cell 3⟩,ch.below HS.out Q (ch.lt HS.out),f.trans (Q.mono (by omega)),Nat.lt_of_lt_of_le aS Q.size⟩))
   have m:=bP (fun(hn:¬x.ok) (hf:dS l)=>hn (hf.each x aj));clear ai;have q1:=iu x.lang aU.1 A;by_cases M:df (bl x.lang)=true
   .rw[n,M]at q1;have aF:=bP M;clear M;go_wp2_with fail;refine q1.mono ?_;rintro e S ⟨rfl,c⟩;rw[<-n]at c;clear q1 k0 k1 k2 k3;obtain⟨⟨m0,m1,m2,m3⟩,B,o,_⟩:=L.out S c;by_cases N:eY x.short 24
    .have F:=kU x.short 24 S;rw[decide_eq_true N]at F;have aG:=bP N;clear N;go_wp2_with fail;refine F.mono ?_;rintro e T ⟨rfl,u⟩;have d:=c.trans (u.mono c.size);clear F m0 m1 m2 m3 B o u c;obtain⟨⟨m0,m1,m2,m3⟩,B,o,_⟩:=L.out T d;by_cases O:eY x.full 24
     .have G:=kU x.full 24 T;rw[decide_eq_true O]at G;have aH:=bP O;clear O;go_wp2_with fail;refine G.mono ?_;rintro e Y ⟨rfl,v⟩;have V:=d.trans (v.mono d.size);clear G m0 m1 m2 m3 B o d v;obtain⟨⟨m0,m1,m2,m3⟩,C,q,aA⟩:=L.out Y V;by_cases p4:0<=x.cost
      .by_cases p5:x.cost<=1000
       .have ao:=bP (show x.ok from⟨aF.out,aG.out,aH.out,p4,p5⟩);have I:=cy.look C Bu underlying86 (qk Y) (key:=gT x) ⟨x,rfl⟩;by_cases t:x∈l.take k
        .rw[decide_eq_true (rM.2 t)]at I;unfold gT at I;have g:=bP (show¬dS l from fun hf=>by
          have J:=hf.once;obtain⟨j,hj,ae⟩:=getElem_of_mem t;rw[length_take]at hj;rw[getElem_take,<-Hx.out]at ae;have:=(getElem_inj J).1 ae;omega)
         clear t;go_wp2_with fail;go_ret;exact⟨cj g.out,q⟩
        .rw[decide_eq_false (fun h=>t (rM.1 h))]at I;obtain⟨w6,aC,P,ad,ag⟩:=cy.put C Bu underlying86 (key:=gT x) ⟨x,rfl⟩;rw[jQ,if_neg (fun h=>t (rM.1 h))]at P;have aJ:=bP P;have aq:=q.grown ad q.size (fun j hj=>by cases hj;exact bW);have aB:w.heap.size<w6.heap.size:=by rw[ag];exact aA
         have aL:=bP t;unfold gT at I aC;have E:=bP (show(∀(a:Nat) r,a<k+1->l[a]?=some r->r.ok)/\(l.take (k+1)).Nodup/\cy w6 w.heap.size qq ((l.take (k+1)).map gT)from by
          have ah:l.take (k+1)=l.take k++[x]:=by rw[take_succ_eq_append_getElem H,Hx.out]
          refine⟨fun a r ha R=>?_,?_,?_⟩
          .rcases Nat.lt_succ_iff_lt_or_eq.1 ha with h |rfl
           .exact aa.out a r h R
           .rw[getElem?_eq_getElem H,Hx.out]at R;obtain rfl:=Option.some.inj R;exact ao.out
          .rw[ah];refine nodup_append.2 ⟨Z.out,by simp,fun y hy z hz e=>?_⟩;have:z=x:=by simpa using hz
           subst this;subst e;exact aL.out hy
          .rw[ah,map_append];exact aJ.out)
         clear t P ad ag C;go_wp2_with fail;exact⟨⟨k+1,by omega,by go_num,E.out.1,E.out.2.1,E.out.2.2,aq,aB⟩,by simp[intOf];omega⟩
       .have g:=bP (m.out (fun h=>p5 h.2.2.2.2));have d5:decide (1000<x.cost)=true:=bZ;clear C;go_wp2_with fail;go_ret;exact⟨cj g.out,q⟩
      .have g:=bP (m.out (fun h=>p4 h.2.2.2.1));have d4:decide (x.cost<0)=true:=bZ;clear C;go_wp2_with fail;go_ret;exact⟨cj g.out,q⟩
     .have G:=kU x.full 24 T;rw[decide_eq_false O]at G;have g:=bP (m.out (fun h=>O h.2.2.1));clear O;go_wp2_with fail;refine G.mono ?_;rintro e Y ⟨rfl,v⟩;have aw:=(L.out Y (d.trans (v.mono d.size))).2.2.1;clear G m0 m1 m2 m3 B o;go_wp2_with fail;go_ret;exact⟨cj g.out,aw⟩
    .have F:=kU x.short 24 S;rw[decide_eq_false N]at F;have g:=bP (m.out (fun h=>N h.2.1));clear N;go_wp2_with fail;refine F.mono ?_;rintro e T ⟨rfl,u⟩;have au:=(L.out T (c.trans (u.mono c.size))).2.2.1;clear F m0 m1 m2 m3 B o;go_wp2_with fail;go_ret;exact⟨cj g.out,au⟩
   .have ak:df (bl x.lang)=false:=by simpa using M
    rw[n,ak]at q1;have g:=bP (m.out (fun h=>M h.1));clear M ak;go_wp2_with fail;refine q1.mono ?_;rintro e S ⟨rfl,c⟩;rw[<-n]at c;have ar:=(L.out S c).2.2.1;clear q1 k0 k1 k2 k3;go_wp2_with fail;go_ret;exact⟨cj g.out,ar⟩
  .obtain rfl:k=l.length:=by omega
   have al:=bP (show dS l↔l.length<=100 from⟨fun h=>h.most,fun h=>⟨h,fun r R=>by
    obtain⟨i,hi⟩:=getElem?_of_mem R;exact aa.out i r (List.getElem?_eq_some_iff.1 hi).1 hi,by have:=Z.out;rwa [take_length]at this⟩⟩)
   go_wp2_with fail;all_goals
    go_ret;refine⟨fy ?_,f⟩;rw[al.out];simp;try omega
end
section
open Go.RowKit Go.Shelf Classical
structure fG (w:World)(B:Nat)(a:Option Addr)(L:List Spl):Prop where
 row:b8 w B a (L.flatMap Spl.cells)
 ok:∀x∈L,x.ok w B
section
variable {w w' : World} {B B' : Nat} {a : Option Addr} {L : List Spl}
theorem fG.below (h:fG w B a L)(c:Below B' w w')(b:B<=B'):fG w' B a L:=⟨h.row.below c b,fun x d=>⟨(h.ok x d).1,(h.ok x d).2.below c b⟩⟩
theorem fG.more (h:fG w B a L)(b:B<=B'):fG w B' a L:=⟨h.row.more b,fun x c=>⟨(h.ok x c).1,(h.ok x c).2.more b⟩⟩
theorem fG.get (h:fG w B a L)(m:0<L.length):∃b off,a=some ⟨b,off,none⟩/\b<B/\∀i (c:i<L.length),w.cell? ⟨b,off+i*2,none⟩=some (.slice L[i].at_ L[i].ws.length L[i].cap)/\w.cell? ⟨b,off+i*2+1,none⟩=some (.int .i64 L[i].cost):=by
 have hk:∀x:Spl,x.cells.length=2:=fun _=>rfl;have l:=iN hk L;obtain⟨b,off,e,k,j⟩:=h.row (by rw[l];omega);refine⟨b,off,e,k,fun i c=>?_⟩;obtain⟨x,h1,d⟩:=lH hk (by decide) L (i*2) (by omega);obtain⟨y,f,g⟩:=lH hk (by decide) L (i*2+1) (by omega);rw[show i*2/2=i by omega,getElem?_eq_getElem c]at h1;rw[show(i*2+1)/2=i by omega,getElem?_eq_getElem c]at f;obtain rfl:=Option.some.inj h1;obtain rfl:=Option.some.inj f;rw[show i*2%2=0 by omega]at d;rw[show(i*2+1)%2=1 by omega]at g;exact⟨j _ _ d,j _ _ g⟩
end
set_option maxRecDepth 100000
set_option maxHeartbeats 4000000
theorem mG (a b:List ByteArray)(aa u:Option Addr)(ac z B:Nat)(v:a.length<=maxLen)(w:World)(A:b8 w B aa (strs a))(C:b8 w B u (strs b)):
  Calls prog 13 #[.slice aa a.length ac,.slice u b.length z] w fun e w'=>e= .returned (.bool (decide (a=b)))/\∃q,w'=w.drewN q:=by
 unfold maxLen at v;go_enter func13,ntmps13;by_cases f:a.length=b.length
 .have d1:((a.length:Int) != (b.length:Int))=false:=by simp[f]
  have l:=bP f;clear f;go_wp2_with fail;go_loopw [5] (fun i wr=>∃k:Nat,k<=a.length/\i= .int .i64 k/\(∀j,j<k->a[j]?=b[j]?)/\∃q,wr=w.drewN q) (fun i _=>a.length-(intOf i).toNat);case atStart=>exact⟨0,zero_le _,rfl,by simp,0,rfl⟩
  case round=>
   obtain⟨k,hk,rfl,s,q,y⟩:=hrel;have m:=bP s;have c:=bP y;clear s y;by_cases p:k<a.length
   .have r:k<b.length:=by have:=l.out;omega
    obtain⟨g,o,rfl,F,x⟩:=A.strs (by omega);obtain⟨g',D,rfl,E,n⟩:=C.strs (by omega);have x0:wr.cell? ⟨g,o+k,none⟩=some (.string a[k]):=by rw[c.out];exact x k p
    have y0:wr.cell? ⟨g',D+k,none⟩=some (.string b[k]):=by rw[c.out];exact n k r
    clear x n;by_cases he:a[k]=b[k]
    .have d2:(a[k].toList==b[k].toList)=true:=by rw[he];simp
     have t:=bP he;clear he;go_wp2_with fail;go_quiet (fail);go_wp2;exact⟨⟨k+1,by omega,by go_num,Eo m.out p r t.out,_,by rw[c.out,drewN_drewN]⟩,by simp[intOf];omega⟩
    .have d2:(a[k].toList==b[k].toList)=false:=by
      rw[ByteArray.toList_eq,ByteArray.toList_eq,beq_eq_false_iff_ne];exact fun e=>he (cY e)
     have t:=bP he;clear he;go_wp2_with fail;go_quiet (fail);go_wp2;go_ret;refine⟨cj fun d=>t.out ?_,_,by rw[c.out,drewN_drewN]⟩;subst d;rfl
   .go_wp2;go_ret;exact⟨dP (mW l.out fun j G=>m.out j (by omega)),_,c.out⟩
 .have d1:((a.length:Int) != (b.length:Int))=true:=by simp;omega
  have l:=bP f;clear f;go_wp2;go_ret;exact⟨cj fun d=>l.out (by rw[d]),0,rfl⟩
theorem Cg {α:Type}{a b:List α}{k:Nat}(h:∀j,j<k->a[j]?=b[j]?)(hk:a[k]?=b[k]?):∀j,j<k+1->a[j]?=b[j]?:=fun j c=>by
 rcases Nat.lt_succ_iff_lt_or_eq.1 c with q |rfl
 .exact h j q
 .exact hk
theorem vE (L M:List Spl)(N O:Option Addr)(lc T:Nat)(Q:L.length<=maxLen)(R:M.length<=maxLen)(w:World)(h:fG w w.heap.size N L)(hm:fG w w.heap.size O M):
  Calls prog 18 #[.slice N L.length lc,.slice O M.length T] w fun e w'=>e= .returned (.bool (decide (L.map Spl.key=M.map Spl.key)))/\∃q,w'=w.drewN q:=by
 unfold maxLen at Q R;have H:=bQ h hm;clear h hm;go_enter func18,ntmps18;by_cases s:L.length=M.length;case neg=>
  have d1:((L.length:Int) != (M.length:Int))=true:=by simp;omega
  have z:=bP s;clear s;go_wp2;go_ret;exact⟨cj fun d=>z.out (by have:=congrArg length d;simpa using this),0,rfl⟩
 have d1:((L.length:Int) != (M.length:Int))=false:=by simp[s]
 have z:=bP s;clear s;go_wp2_with fail;go_loopw [5] (fun i wr=>∃k:Nat,k<=L.length/\i= .int .i64 k/\(∀j,j<k->(L.map Spl.key)[j]?=(M.map Spl.key)[j]?)/\∃q,wr=w.drewN q) (fun i _=>L.length-(intOf i).toNat);case atStart=>exact⟨0,zero_le _,rfl,by simp,0,rfl⟩
 case round=>
  obtain⟨k,hk,rfl,B,q,J⟩:=hrel;have A:=bP B;have b:=bP J;clear B J;by_cases f:k<L.length
  .have l:k<M.length:=by have:=z.out;omega
   obtain⟨g,o,rfl,V,F⟩:=H.out.1.get (by omega);obtain⟨g',P,rfl,U,p⟩:=H.out.2.get (by omega);have x0:wr.cell? ⟨g,o+k*2,none⟩=some (.slice L[k].at_ L[k].ws.length L[k].cap):=by rw[b.out];exact(F k f).1
   have x1:wr.cell? ⟨g,o+k*2+1,none⟩=some (.int .i64 L[k].cost):=by rw[b.out];exact(F k f).2
   have y0:wr.cell? ⟨g',P+k*2,none⟩=some (.slice M[k].at_ M[k].ws.length M[k].cap):=by rw[b.out];exact(p k l).1
   have y1:wr.cell? ⟨g',P+k*2+1,none⟩=some (.int .i64 M[k].cost):=by rw[b.out];exact(p k l).2
   clear F p;have D:(L.map Spl.key)[k]?=some (L[k]).key:=by rw[getElem?_map,getElem?_eq_getElem f];rfl
   have E:(M.map Spl.key)[k]?=some (M[k]).key:=by rw[getElem?_map,getElem?_eq_getElem l];rfl
   obtain⟨x,G⟩:∃x,L[k]=x:=⟨_,rfl⟩;obtain⟨y,I⟩:∃y,M[k]=y:=⟨_,rfl⟩;rw[G]at x0 x1 D;rw[I]at y0 y1 E;have t:=H.out.1.ok x (by rw[<-G];exact getElem_mem f);have u:=H.out.2.ok y (by rw[<-I];exact getElem_mem l);have v:=bP (fun(n:Nat)=>mG x.ws y.ws x.at_ y.at_ x.cap y.cap w.heap.size t.1 (wr.drewN n) (by rw[b.out];exact t.2) (by rw[b.out];exact u.2));have m:=bQ D E;clear t u G I D E;by_cases a:x.cost=y.cost
   .have d2:(x.cost != y.cost)=false:=by simpa using a
    have c:=bP a;clear a;by_cases hw:x.ws=y.ws
    .have r:decide (x.ws=y.ws)=true:=decide_eq_true hw;rw[r]at v;have C:=bP hw;clear hw r;go_wp2_with fail;go_quiet ((go_at_call 13;exact Calls.quiet_of (v.out _)));go_wp2;exact⟨⟨k+1,by omega,by go_num,Cg A.out (by rw[m.out.1,m.out.2];unfold Spl.key;rw[C.out,c.out]),_,by rw[b.out,drewN_drewN]⟩,by simp[intOf];omega⟩
    .have r:decide (x.ws=y.ws)=false:=decide_eq_false hw;rw[r]at v;have C:=bP hw;clear hw r;go_wp2_with fail;go_quiet ((go_at_call 13;exact Calls.quiet_of (v.out _)));go_wp2;go_ret;refine⟨cj fun d=>C.out ?_,_,by rw[b.out,drewN_drewN]⟩;have h1:=m.out.1;rw[d,m.out.2]at h1;exact(Prod.mk.inj (Option.some.inj h1)).1.symm
   .have d2:(x.cost != y.cost)=true:=by simpa using a
    have c:=bP a;clear a;go_wp2_with fail;go_quiet (fail);go_wp2;go_ret;refine⟨cj fun d=>c.out ?_,_,by rw[b.out,drewN_drewN]⟩;have h1:=m.out.1;rw[d,m.out.2]at h1;exact(Prod.mk.inj (Option.some.inj h1)).2.symm
  .go_wp2;go_ret;exact⟨dP (mW (by have:=z.out;simpa using this) fun j S=>A.out j (by rw[length_map]at S;omega)),_,b.out⟩
theorem iB.trans {b:Nat}{X Y Z:World}(h:iB b Bt X Y)(k:iB b Bt Y Z):iB b Bt X Z:=
 ⟨k.1.trans h.1,k.2.1.trans h.2.1,fun i o c a=>k.2.2 i o (h.2.2 i o c a) a⟩
theorem yo {b:Nat}{X Y:World}(h:Below X.heap.size X Y)(d:b<X.heap.size)(c:Bt<X.heap.size):iB b Bt X Y:=
 ⟨h.block _ d,h.block _ c,fun _ _ a _=>(h.block _ (Array.getElem?_eq_some_iff.1 a).1).trans a⟩
theorem uh {b B:Nat}(g:b<B)(f:Bt<B)(W:World)(l:Nat)(o d:Obj)(j:B<=l)(h:W.heap[l]?=some o)(hw:o.isWalk=false):iB b Bt W (W.putObj l d):=by
 refine⟨putObj_heap_other (by omega),putObj_heap_other (by omega),fun i q a c=>?_⟩;by_cases e:i=l
 .subst e;rw[h]at a;obtain rfl:=Option.some.inj a;obtain⟨s,sn,c0,rfl⟩:=c;cases hw
 .rw[putObj_heap_other (fun e'=>e e')];exact a
theorem fx.kept {X Y:World}{base:Nat}{l:List (ByteArray×ByteArray)}{es:List (Value×Value)}{row:Option Nat}(h:fx X base cm l es)(c:X.grownBy Y row)(f:∀r,row=some r->r≠cm/\∃o:Obj,X.heap[r]?=some o/\o.isCells=false):fx Y base cm l es:=
 ⟨h.isMap.grown c (fun e=>(f cm e.symm).1 rfl),fun p hp=>by
  obtain⟨k,h1,i,b⟩:=h.own p hp;refine⟨k,h1,i,b.kept c ?_⟩;rcases b.2 with ⟨a,_⟩ |⟨g,cap,cur,a,_,m,_⟩
  .exact .inl (by rw[a];rfl)
  .refine .inr (fun e=>?_);rw[a]at e;obtain⟨_,o,d,j⟩:=f g e.symm;rw[m]at d;obtain rfl:=Option.some.inj d;exact(by cases j),h.has,h.apart⟩
theorem ze {a c y x d:World}{m:Nat}{pre:List (ByteArray×ByteArray)}{es:List (Value×Value)}{p:ByteArray×ByteArray}{u:List (Value×Value)}{v0:Value}{n:Nat}{xs:List Value}
  (G:fx c a.heap.size cm pre es)(w:c.ownsRow a.heap.size 9 1 v0 n xs)(H:Below c.heap.size c y)(t:y.grownBy x v0.ownBlock)(F:fx d a.heap.size cm (pre++[p]) u)(B:x.grownBy d (some cm))
  (l:Chg (fun k=>k=cm) a c)(L:cm<a.heap.size)(hm:m<a.heap.size)(M:Bt<a.heap.size)(C:m≠cm)(z:Bt≠cm):
  KeepsFrom a.heap.size c d/\iB m Bt c d/\(∃es,fx d a.heap.size cm (pre++[p]) es)/\Chg (fun k=>k=cm) a d:=by
 have hC:Chg (fun k=>k=cm\/some k=v0.ownBlock) c d:=((Chg.ai _ H).au t (fun r e=> .inr e.symm)).au B (fun r e=>by cases e;exact .inl rfl);have E:=l.size;have b:∀k,some k=v0.ownBlock->a.heap.size<=k/\∃cur,c.heap[k]?=some (.cells cur 9 (0,0)):=fun k e=>by
  rcases w.2 with ⟨rfl,_⟩ |⟨g,cap,cur,rfl,I,q,_⟩
  .cases e
  .cases e;exact⟨I,_,q⟩
 obtain⟨J,clock,A,_⟩:=G.isMap;refine⟨⟨hC.size,fun k o hk j D=>(hC.block k (Array.getElem?_eq_some_iff.1 j).1 ?_).trans j⟩,⟨hC.block m (by omega) ?_,hC.block Bt (by omega) ?_,fun i o f j=>(hC.block i (Array.getElem?_eq_some_iff.1 f).1 ?_).trans f⟩,⟨u,F⟩,?_⟩
 .rintro(e |e)
  .omega
  .obtain⟨_,cur,q⟩:=b k e;rw[q]at j;obtain rfl:=Option.some.inj j;cases D
 .rintro(e |e)
  .exact C e
  .have:=(b m e).1;omega
 .rintro(e |e)
  .exact z e
  .have:=(b Bt e).1;omega
 .obtain⟨s,sn,c0,rfl⟩:=j;rintro(e |e)
  .subst e;rw[A]at f;cases f
  .obtain⟨_,cur,q⟩:=b i e;rw[q]at f;cases f
 .refine⟨hC.os.trans l.os,hC.tape.trans l.tape,hC.output.trans l.output,Nat.le_trans E hC.size,fun k hk v=>(hC.block k (by omega) ?_).trans (l.block k hk v)⟩;rintro(e |e)
  .exact v e
  .have:=(b k e).1;omega
def ER:Value->ByteArray×ByteArray
 | .agg ⟨[.string x,.string y]⟩=>(x,y)
 |_=>(⟨#[]⟩,⟨#[]⟩)
theorem xL (l:List (ByteArray×ByteArray)):(l.map chV).map ER=l:=by
 rw[map_map];exact(map_congr_left (g:=id) (fun x _=>rfl)).trans (map_id _)
theorem Dl {a:List (ByteArray×ByteArray)}{es:List ((ByteArray×ByteArray)×Int)}(h:(a.map chV).Perm ((ew es).map (·.1))):a.Perm (es.map (·.1)):=by
 rw[zD]at h;have:=h.map ER;rwa [xL,xL]at this
theorem B8 (es:List ((ByteArray×ByteArray)×Int))(a:List (ByteArray×ByteArray))(x:ByteArray):(rowOf es a x).length=(cO a x).length:=by
 rw[<-pX es a x,length_map]
theorem Cn (a:List (ByteArray×ByteArray))(x:ByteArray):(cO a x).length<=a.length:=by
 unfold cO;rw[length_map];exact length_filter_le _ _
theorem fx.row {X:World}{base:Nat}{d:List (ByteArray×ByteArray)}{e:List (Value×Value)}(h:fx X base cm d e)(x:ByteArray):
  ∃(a:Option Addr) (c:Nat),(∀wr:World,wr.heap[cm]?=X.heap[cm]?->(Instr.lookup 65 (.map (some cm)) (.string x) false).run prog wr= .ok (.slice a (cO d x).length c) wr)/\
   X.ownsRow base 9 1 (.slice a (cO d x).length c) (cO d x).length (strs (cO d x)):=by
 obtain⟨v0,f,b, -⟩:=h.look x;obtain⟨a,c,rfl, -, -⟩:=b8.ah b;exact⟨a,c,fun wr g=>h.aW g f,b⟩
theorem uo {α β:Type}{g:α->β}:∀{l:List α},(l.map g).Nodup->∀x∈l,∀y∈l,g x=g y->x=y
 |[],_,x,b,_,_,_=>by cases b
 |a::l,h,x,b,y,c,e=>by
  rw[map_cons,nodup_cons]at h;rcases mem_cons.1 b with q |q<;>rcases mem_cons.1 c with r |r
  .rw[q,r]
  .exact absurd (mem_map.2 ⟨y,r,by rw[<-e,q]⟩) h.1
  .exact absurd (mem_map.2 ⟨x,q,by rw[e,r]⟩) h.1
  .exact uo h.2 x q y r e
theorem xm {l:List (List ByteArray×Int)}(h:(l.map (·.1)).Nodup):l.Nodup:=(pairwise_map.1 h).imp (fun a e=>a (by rw[e]))
theorem DV {P:Nat->Option Addr->Nat->Prop}(h:∀k,∃a c,P k a c):∃(A:Nat->Option Addr) (C:Nat->Nat),∀k,P k (A k) (C k):=by
 obtain⟨A,b⟩:=Classical.axiomOfChoice h;obtain⟨C,hC⟩:=Classical.axiomOfChoice b;exact⟨A,C,hC⟩
theorem Ec {w:World}{base base' n b:Nat}{a:Option Addr}{c g f:Nat}{xs d:List Value}(h:w.ownsRow base 9 1 (.slice a n c) n xs)(i:w.ownsRow base' 48 2 (.slice (some ⟨g,0,none⟩) b f) b d):∀p,a=some p->p.block≠g:=by
 rintro p rfl e;rcases own_ne h i (by decide)with q |q
 .cases q
 .exact q (by simp[Value.ownBlock,e])
theorem BM {Cs:List (List (ByteArray×Int))}{k:Nat}{C:List (ByteArray×Int)}(h:Cs[k]?=some C):cW (Cs.take (k+1))=cW (Cs.take k)*C.length:=by
 rw[take_add_one,h,Option.toList_some,Ad]
end
section
open Go Classical
def iy (n cs:List UInt8):cr:=⟨bs n,cs.map (fun c=>bs [c]),(range cs.length).map (fun i:Nat=>(i:Int))⟩
theorem ju (n cs:List UInt8):(iy n cs).bls=cs.map (fun c=>[c]):=by
 simp[iy,cr.bls,cZ,map_map,Function.comp_def]
theorem sV (n cs:List UInt8)(s:df n=true)(h1:1<=cs.length)(q:cs.length<=64)(j:cs.Nodup)(hp:∀c∈cs,eV c=true):cG (iy n cs):=by
 refine⟨⟨by simpa [iy,cZ]using s,by simpa [iy]using h1,by simpa [iy]using q,by simp[iy],?_,?_,?_,?_⟩,?_⟩
 .intro l b;obtain⟨c,r,rfl⟩:=mem_map.1 b;rw[nA,cZ];exact⟨by simp,by simp,by simp[iq,hp c r]⟩
 .intro z t;obtain⟨i,a,rfl⟩:=mem_map.1 t;have:=mem_range.1 a;simp only[iy,length_map];omega
 .exact pairwise_map.2 (j.imp (fun h e=>h (by have:=AT e;simpa using this)))
 .intro i z a;have a:((range cs.length).map (fun i:Nat=>(i:Int)))[i]?=some z:=a;rw[getElem?_map]at a;have g:i<cs.length:=by
   rcases Nat.lt_or_ge i cs.length with h |h
   .exact h
   .rw[getElem?_eq_none (by simpa using h)]at a;cases a
  rw[getElem?_range g]at a;simp at a;subst a;show((range cs.length).map (fun i:Nat=>(i:Int)))[_]?=_;rw[getElem?_map,toNat_natCast,getElem?_range g];rfl
 .intro i k l m o b hm f;have b:(cs.map (fun c=>bs [c]))[i]?=some l:=b;have hm:(cs.map (fun c=>bs [c]))[k]?=some m:=hm;rw[getElem?_map]at b hm;cases a:cs[i]? with
  |none=>rw[a]at b;cases b
  |some c=>
   cases hk:cs[k]? with
   |none=>rw[hk]at hm;cases hm
   |some d=>
    rw[a]at b;rw[hk]at hm;cases b
    cases hm
    rw[cZ,cZ]at f;have:d=c:=by simpa using f
    subst this;obtain⟨u,a2⟩:=List.getElem?_eq_some_iff.1 a;obtain⟨v,p⟩:=List.getElem?_eq_some_iff.1 hk;exact absurd ((getElem_inj j).1 (a2.trans p.symm)) o
def smalls:List UInt8:=(range 26).map (fun i=>(97+i).toUInt8)
def eP:cr:=iy [108,97,116,105,110] smalls
def dW:cr:=iy [117,112,112,101,114] [65,78,67]
def exR:dj:=⟨bs [117,112,112,101,114],bs [108,97,116,105,110],[⟨bs [65],bs [97],bs [],false⟩,⟨bs [78],bs [110],bs [],false⟩,⟨bs [67],bs [99,104],bs [],false⟩]⟩
theorem rE:cG eP:=sV _ _ (by decide) (by decide) (by decide) (by decide) (by decide)
theorem oF:cG dW:=sV _ _ (by decide) (by decide) (by decide) (by decide) (by decide)
theorem Fb:dr exR dW eP:=by
 refine⟨⟨by simp only[exR,cZ];decide,by simp only[exR,cZ];decide,by simp[exR],by simp[exR],?_,?_⟩,oF,rE,rfl,rfl,?_⟩
 .intro r a;simp[exR]at a;rcases a with rfl |rfl |rfl
  .refine⟨⟨?_,?_,?_⟩,⟨?_,?_,?_⟩,⟨?_,?_,?_⟩,?_⟩<;>simp only[cZ,nA]<;>decide
  .refine⟨⟨?_,?_,?_⟩,⟨?_,?_,?_⟩,⟨?_,?_,?_⟩,?_⟩<;>simp only[cZ,nA]<;>decide
  .refine⟨⟨?_,?_,?_⟩,⟨?_,?_,?_⟩,⟨?_,?_,?_⟩,?_⟩<;>simp only[cZ,nA]<;>decide
 .simp only[exR,nodup_cons,mem_cons,not_mem_nil,or_false,not_or,nodup_nil,and_true];refine⟨⟨fun h=>?_,fun h=>?_⟩,fun h=>?_,fun h=>h⟩<;>(have:=AT (congrArg Rul.src h);cases this)
 .have hu:dW.bls=[[65],[78],[67]]:=by unfold dW;rw[ju];rfl
  have b:eP.bls=smalls.map (fun c=>[c]):=by unfold eP;rw[ju]
  intro r a;simp[exR]at a;rcases a with rfl |rfl |rfl
  .refine⟨.inr ?_,.inr ?_,.inl (cZ _)⟩
   .rw[cZ,hu];decide
   .rw[cZ,b];decide
  .refine⟨.inr ?_,.inr ?_,.inl (cZ _)⟩
   .rw[cZ,hu];decide
   .rw[cZ,b];decide
  .refine⟨.inr ?_,.inr ?_,.inl (cZ _)⟩
   .rw[cZ,hu];decide
   .rw[cZ,b];decide
def exM:cu:=⟨4,0,[1,2],[⟨0,65,97,1⟩,⟨0,67,99,3⟩,⟨0,78,110,1⟩,⟨1,65,97,1⟩,⟨1,67,99,3⟩,⟨1,78,110,1⟩,⟨3,0,104,1⟩]⟩
theorem Bc:cR exM.arcs:=by
 unfold cR exM;simp[Arc.lt]
theorem Fa {M:cu}(h:gV exR dW M):M=exM:=by
 have f:dW.bls=[[65],[78],[67]]:=by unfold dW;rw[ju];rfl
 have a:exR.list.map Rul.l=[⟨[65],[97],[],false⟩,⟨[78],[110],[],false⟩,⟨[67],[99,104],[],false⟩]:=by simp[exR,Rul.l,cZ]
 obtain⟨m1,m2,m3,m4⟩:=M;have b:m1=4:=h.ag.trans (by rw[a];decide);have c:m2=0:=h.start;have d:m3=[1,2]:=h.final;have e:m4=exM.arcs:=h.inc.ext Bc (fun y=>(h.mem y).trans (by
  rw[a,f];have:eX [[65],[78],[67]] [⟨[65],[97],[],false⟩,⟨[78],[110],[],false⟩,⟨[67],[99,104],[],false⟩]=[⟨0,65,97,1⟩,⟨1,65,97,1⟩,⟨0,78,110,1⟩,⟨1,78,110,1⟩,⟨0,67,99,3⟩,⟨1,67,99,3⟩,⟨3,0,104,1⟩]:=by decide
  rw[this];simp only[exM,mem_cons,not_mem_nil,or_false];constructor
  .rintro(h |h |h |h |h |h |h)<;>simp[h]
  .rintro(h |h |h |h |h |h |h)<;>simp[h]))
 rw[b,c,d,e];rfl
theorem iM {a:Arc}(h:a∈exM.arcs):a=⟨0,65,97,1⟩\/a=⟨0,67,99,3⟩\/a=⟨0,78,110,1⟩\/a=⟨1,65,97,1⟩\/a=⟨1,67,99,3⟩\/a=⟨1,78,110,1⟩\/a=⟨3,0,104,1⟩:=by simpa [exM]using h
theorem CY:cN exM:=by
 refine⟨by simp[exM],by simp[exM],by simp[exM,cD],by simp[exM],?_,by simp[exM],?_,Bc⟩
 .intro s b;simp[exM]at b;rcases b with rfl |rfl<;>simp[exM,cD]
 .intro a c;rcases iM c with rfl |rfl |rfl |rfl |rfl |rfl |rfl<;>simp[exM,cD,dD]
theorem EF {s t:Int}(h:Way (Ed exM) s t):s=3/\t=1:=by
 have b:∀u v,Ed exM u v->u=3/\v=1:=by
  rintro u v ⟨a,e,rfl⟩;obtain⟨h1,c,d⟩:=ec.1 e;rcases iM h1 with rfl |rfl |rfl |rfl |rfl |rfl |rfl<;>simp at c d⊢;exact c.symm
 induction h with
 |one h1=>exact b _ _ h1
 |more _ h1 f=>
  have:=b _ _ h1;omega
theorem EZ:¬eJ exM:=by
 rintro⟨s,a⟩;have:=EF a;omega
theorem tw {l:List UInt8}{b:UInt8}(i:b≠0){ks c:List Plc}(h:∀p,Reach exM l p->p∈ks)(g:∀p∈ks,∀a∈exM.arcs,a.frm=p.st->a.inp=(b.toNat:Int)->dy p a∈c)(h1:∀p∈c,∀a∈exM.arcs,a.frm=p.st->a.inp=0->dy p a∈c):∀p,Reach exM (l++[b]) p->p∈c:=
 BO i h (fun p hp a d=>by obtain⟨q1,e,f⟩:=ec.1 d;exact g p hp a q1 e f) (fun p hp a d=>by obtain⟨q1,e,f⟩:=ec.1 d;exact h1 p hp a q1 e f)
def e0:List Plc:=[⟨0,bs []⟩]
theorem zH:∀p,Reach exM [] p->p∈e0:=fun p hp=>by
 rw[iF]at hp;refine AX (fun q b=>by rw[b];simp[e0,exM,bs]) (fun q b a e=>?_) hp;simp[e0]at b;subst b;obtain⟨h1,c,d⟩:=ec.1 e;rcases iM h1 with rfl |rfl |rfl |rfl |rfl |rfl |rfl<;>simp at c d
theorem wG {l t:List UInt8}{b c:UInt8}{s:Int}(j:s=0\/s=1)(d:(b=65/\c=97)\/(b=78/\c=110))(h:∀p,Reach exM l p->p∈[(⟨s,bs t⟩:Plc)]):∀p,Reach exM (l++[b]) p->p∈[(⟨1,bs (t++[c])⟩:Plc)]:=by
 refine tw (by rcases d with ⟨rfl,_⟩ |⟨rfl,_⟩<;>decide) h (fun q i a g e f=>?_) (fun q i a g e f=>?_)
 .obtain rfl:=mem_singleton.1 i;rcases j with rfl |rfl<;>rcases d with ⟨rfl,rfl⟩ |⟨rfl,rfl⟩<;>rcases iM g with rfl |rfl |rfl |rfl |rfl |rfl |rfl<;>simp at e f<;>(rw[dy,gD _ _ (by decide)];exact mem_singleton.2 rfl)
 .obtain rfl:=mem_singleton.1 i;rcases iM g with rfl |rfl |rfl |rfl |rfl |rfl |rfl<;>simp at e f
theorem EB:∀p,Reach exM [67] p->p∈[(⟨3,bs [99]⟩:Plc),⟨1,bs [99,104]⟩]:=by
 refine tw (l:=[]) (by decide) zH (fun q b a e c d=>?_) (fun q b a e c d=>?_)
 .simp[e0]at b;subst b;rcases iM e with rfl |rfl |rfl |rfl |rfl |rfl |rfl<;>simp at c d;rw[dy,gD _ _ (by decide)];simp
 .simp at b;rcases b with rfl |rfl
  .rcases iM e with rfl |rfl |rfl |rfl |rfl |rfl |rfl<;>simp at c d;rw[dy,gD _ _ (by decide)];simp
  .rcases iM e with rfl |rfl |rfl |rfl |rfl |rfl |rfl<;>simp at c d
theorem DF:∀p,Reach exM [67,65] p->p∈[(⟨1,bs [99,104,97]⟩:Plc)]:=by
 refine tw (l:=[67]) (by decide) EB (fun q b a e c d=>?_) (fun q b a e c d=>?_)
 .simp at b;rcases b with rfl |rfl
  .rcases iM e with rfl |rfl |rfl |rfl |rfl |rfl |rfl<;>simp at c d
  .rcases iM e with rfl |rfl |rfl |rfl |rfl |rfl |rfl<;>simp at c d;rw[dy,gD _ _ (by decide)];simp
 .simp at b;subst b;rcases iM e with rfl |rfl |rfl |rfl |rfl |rfl |rfl<;>simp at c d
theorem A9:∀p,Reach exM [67,65,78] p->p∈[(⟨1,bs [99,104,97,110]⟩:Plc)]:=wG (l:=[67,65]) (.inr rfl) (.inr ⟨rfl,rfl⟩) DF
theorem EE:∀p,Reach exM [78] p->p∈[(⟨1,bs [110]⟩:Plc)]:=wG (l:=[]) (.inl rfl) (.inr ⟨rfl,rfl⟩) zH
theorem DG:∀p,Reach exM [78,65] p->p∈[(⟨1,bs [110,97]⟩:Plc)]:=wG (l:=[78]) (.inr rfl) (.inl ⟨rfl,rfl⟩) EE
theorem Ba:Reach exM [67,65,78] ⟨1,bs [99,104,97,110]⟩:=by
 have a0:Reach exM [] ⟨0,bs []⟩:=by rw[iF];exact .base (by simp[exM,bs])
 have c:=mx (l:=[]) (b:=67) (by decide) (a:=⟨0,67,99,3⟩) a0 (by simp[exM]) rfl rfl;rw[dy,gD _ _ (by decide)]at c;have a2:=yv (l:=[]) (b:=67) (by decide) (a:=⟨3,0,104,1⟩) c (by simp[exM]) rfl rfl;rw[dy,gD _ _ (by decide)]at a2;have a3:=mx (l:=[67]) (b:=65) (by decide) (a:=⟨1,65,97,1⟩) a2 (by simp[exM]) rfl rfl;rw[dy,gD _ _ (by decide)]at a3;have a4:=mx (l:=[67,65]) (b:=78) (by decide) (a:=⟨1,78,110,1⟩) a3 (by simp[exM]) rfl rfl;rw[dy,gD _ _ (by decide)]at a4;exact a4
theorem CW:Reach exM [78,65] ⟨1,bs [110,97]⟩:=by
 have a0:Reach exM [] ⟨0,bs []⟩:=by rw[iF];exact .base (by simp[exM,bs])
 have c:=mx (l:=[]) (b:=78) (by decide) (a:=⟨0,78,110,1⟩) a0 (by simp[exM]) rfl rfl;rw[dy,gD _ _ (by decide)]at c;have a2:=mx (l:=[78]) (b:=65) (by decide) (a:=⟨1,65,97,1⟩) c (by simp[exM]) rfl rfl;rw[dy,gD _ _ (by decide)]at a2;exact a2
theorem EC {x:List UInt8}(g:x<+:[67,65,78]\/x<+:[78,65]):gq (Reach exM x):=by
 have h:x=[]\/x=[67]\/x=[67,65]\/x=[67,65,78]\/x=[78]\/x=[78,65]:=by
  rcases g with ⟨r,f⟩ |⟨r,f⟩
  .match x,f with
   |[],_=>simp
   |[a],h=>simp at h;simp[h.1]
   |[a,b],h=>simp at h;simp[h.1,h.2.1]
   |[a,b,c],h=>simp at h;simp[h.1,h.2.1,h.2.2.1]
   |a::b::c::d::e,h=>simp at h
  .match x,f with
   |[],_=>simp
   |[a],h=>simp at h;simp[h.1]
   |[a,b],h=>simp at h;simp[h.1,h.2.1]
   |a::b::c::d,h=>simp at h
 rcases h with rfl |rfl |rfl |rfl |rfl |rfl
 .exact⟨e0,by simp[e0],zH⟩
 .exact⟨_,by simp,EB⟩
 .exact⟨_,by simp,DF⟩
 .exact⟨_,by simp,A9⟩
 .exact⟨_,by simp,EE⟩
 .exact⟨_,by simp,DG⟩
theorem yO {x:List UInt8}(a:x<+:[67,65,78]\/x<+:[78,65]){err:Int}(h:et exM x ts err):err=0/\eO ts/\∀t,t∈ts↔Result exM x t:=by
 have e:x.length<=3:=by rcases a with a |a<;>(have:=a.length_le;simp at this;omega)
 rcases h with ⟨h,_⟩ |⟨_,⟨h,_⟩ |⟨_,⟨⟨i,_,d⟩,_⟩ |⟨_,h1,b,c⟩⟩⟩
 .exact absurd ⟨CY,by omega⟩ h
 .exact absurd h EZ
 .exact absurd (EC (a.imp (fun h=>(take_prefix i x).trans h) (fun h=>(take_prefix i x).trans h))) d
 .exact⟨h1,b,c⟩
theorem yh {err:Int}(h:et exM [67,65,78] ts err):err=0/\ts=[bs [99,104,97,110]]:=by
 obtain⟨h1,a,b⟩:=yO (.inl (prefix_refl _)) h;refine⟨h1,a.ext ⟨by simp,by simp⟩ (fun t=>(b t).trans ?_)⟩;simp only[mem_singleton];constructor
 .rintro⟨_,s,d,c⟩;have:=A9 _ c;simp at this;exact this.2
 .rintro rfl;exact⟨by simp,1,by simp[exM],Ba⟩
theorem zI {err:Int}(h:et exM [78,65] ts err):err=0/\ts=[bs [110,97]]:=by
 obtain⟨h1,a,b⟩:=yO (.inr (prefix_refl _)) h;refine⟨h1,a.ext ⟨by simp,by simp⟩ (fun t=>(b t).trans ?_)⟩;simp only[mem_singleton];constructor
 .rintro⟨_,s,d,c⟩;have:=DG _ c;simp at this;exact this.2
 .rintro rfl;exact⟨by simp,1,by simp[exM],CW⟩
end
section
open Go.RowKit Classical
theorem wO (p:Arc):flat [p]=p.cells:=by simp[flat]
end
section
open Go.RowKit Classical
open Go.Shelf
attribute [local go_sem] Oper.semAt_some
attribute [local go_sem] gB fU
section
variable {T : World → Nat → Prop} {bm bn : Nat} {W W' W'' : World}
end
end
section
open Go.RowKit Classical
structure gY (w:World)(n0 bO:Nat)(st s0:Int)(fl:List Int)(al:List Arc)(fv av:Value):Prop where
 blk:Blk w bO #[.int .i64 st,.int .i64 s0,fv,av] 98
 fin:w.ownsRow n0 3 1 fv fl.length (nums fl)
 arc:jo w n0 av al
section
variable {w w' X : World} {n0 bO : Nat} {st s0 : Int} {fl : List Int} {al : List Arc} {fv av v' : Value}
theorem gY.bC (h:gY w n0 bO st s0 fl al fv av){x:Arc}(c:Below w.heap.size w X)(b:w'.ownsRow n0 171 4 v' (al.length+1) (flat al++x.cells))(f:X.grownBy w' av.ownBlock):
  Blk w' bO #[.int .i64 st,.int .i64 s0,fv,av] 98/\gY (w'.setCell ⟨bO,3,none⟩ v') n0 bO st s0 fl (al++[x]) fv v':=by
 have g:=cJ h.arc c;have a:Blk w' bO #[.int .i64 st,.int .i64 s0,fv,av] 98:=(h.blk.below c h.blk.lt).grown f (fun e=>(h.blk.below c h.blk.lt).own_ne g (by decide) e.symm);have d:w'.ownsRow n0 3 1 fv fl.length (nums fl):=dK (cJ h.fin c) g (by decide) f;refine⟨a,?_,cV d (p:=⟨bO,3,none⟩) (a.own_ne d (by decide)) _,?_⟩
 .have:=a.aj 3 v';simpa using this
 .have:=cV b (p:=⟨bO,3,none⟩) (a.own_ne b (by decide)) v';unfold jo;rw[length_append,fR,wO];exact this
end
theorem uQ (w:World)(B:Nat):dx w B (.agg #[.int .i64 0,.int .i64 0,.slice none 0 0,.slice none 0 0]) ff:=
 ⟨none,0,none,0,rfl,by simp[ff],by simp[ff],fun h=>by simp[nums,ff]at h,fun h=>by simp[flat,ff]at h⟩
section
variable {w w' X Y : World} {n0 b bO bR B : Nat} {t : TypeId} {x0 x1 x3 y0 y1 y2 y3 v0 v1 v2 v3 : Value} {fa fva aS : Option Addr} {fl' fc fvc cS : Nat} {S : List Arc} {fl : List Int} {C : cu}
theorem sP {a:Option Addr}(h:b8 w B a (flat S))(j:Blk w b #[x0,x1,.slice fa fl' fc,x3] t)(i:0<(flat S).length)(p:Addr)(hp:a=some p):¬p.block=b:=by
 intro e;have f:0<S.length:=by rw[cT]at i;omega
 obtain⟨l,off,e',_,k⟩:=h.arcs f;rw[hp]at e';injection e' with e';subst e';simp only at e;subst e;obtain⟨h1,m,c,d⟩:=k 0 f;rw[j.cell]at c d;have g:off=0:=by
  have:=(Array.getElem?_eq_some_iff.1 d).1;simp at this;omega
 subst g;simp at c
theorem nZ (w:World)(b:Nat)(v0 v1 v2 v3:Value):Chg (fun k=>k=b) w ((((w.setCell ⟨b,0,none⟩ v0).setCell ⟨b,1,none⟩ v1).setCell ⟨b,2,none⟩ v2).setCell ⟨b,3,none⟩ v3):=
 (((Chg.setCell (S:=fun k=>k=b) (p:=⟨b,0,none⟩) w (.inl rfl) v0).trans (Chg.setCell (S:=fun k=>k=b) (p:=⟨b,1,none⟩) _ (.inl rfl) v1)).trans (Chg.setCell (S:=fun k=>k=b) (p:=⟨b,2,none⟩) _ (.inl rfl) v2)).trans (Chg.setCell (S:=fun k=>k=b) (p:=⟨b,3,none⟩) _ (.inl rfl) v3)
theorem ui {st s0:Int}{r:Option Addr}{u n:Nat}(hO:Blk w bO #[y0,y1,.slice r u n,y3] 98)(hF:w.ownsRow n0 3 1 (.slice fva fl.length fvc) fl.length (nums fl))(i:b8 w w.heap.size aS (flat S))(b:S.length<=maxLen)(d:fl.length<=maxLen):
  dx w w.heap.size (.agg #[.int .i64 st,.int .i64 s0,.slice fva fl.length fvc,.slice aS S.length cS]) ⟨st,s0,fl,S⟩/\
  (∀X,Chg (fun k=>k=bO) w X->dx X X.heap.size (.agg #[.int .i64 st,.int .i64 s0,.slice fva fl.length fvc,.slice aS S.length cS]) ⟨st,s0,fl,S⟩):=by
 obtain⟨a,c,e, -,t⟩:=b8.ah hF;injection e with f o q;subst f;refine⟨⟨_,_,_,_,rfl,d,b,t,i⟩,fun X j=>?_⟩;have l:=fj hF j (fun g e h=>hO.own_ne hF (by decide) (by rw[<-h];exact e));obtain⟨v,x,e', -,m⟩:=b8.ah l;injection e' with f o q;subst f;exact⟨_,_,_,_,rfl,d,b,m,(i.chg j bW (fun s p hp=>sP i hO s p hp)).more j.size⟩
theorem gY.bD {st s0:Int}{al:List Arc}{fv av v':Value}{n:Nat}(h:gY w n0 bO st s0 fl al fv av)(q:n0<=bO){x:Arc}(f:Below w.heap.size w X)(c:w'.ownsRow n0 171 4 v' (al.length+1) (flat al++x.cells))(m:X.grownBy w' av.ownBlock)(d:v'.ownBlock=av.ownBlock\/v'.ownBlock=some n)(u:w.heap.size<=n):
  gY (w'.setCell ⟨bO,3,none⟩ v') n0 bO st s0 fl (al++[x]) fv v'/\Blk w' bO #[.int .i64 st,.int .i64 s0,fv,av] 98/\(∀b cs t,b≠bO->av.ownBlock≠some b->Blk w b cs t->Blk (w'.setCell ⟨bO,3,none⟩ v') b cs t)/\Below n0 w (w'.setCell ⟨bO,3,none⟩ v')/\(∀g,v'.ownBlock=some g->av.ownBlock=some g\/w.heap.size<=g):=by
 obtain⟨h1,o⟩:=h.bC f c m;have l:Chg (fun k=>k=bO\/av.ownBlock=some k) w (w'.setCell ⟨bO,3,none⟩ v'):=
  (((Chg.ai _ f).trans (Chg.ax m (fun r s=> .inl (.inr s))))).trans (Chg.setCell (S:=fun k=>k=bO\/av.ownBlock=some k) (p:=⟨bO,3,none⟩) w' (.inl (.inl rfl)) _)
 refine⟨o,h1,fun b cs t i j hk=>hk.chg l (fun e=>e.elim i j),l.below (fun k hk=>?_) (by have:=h.blk.lt;omega),fun g a=>?_⟩
 .rcases hk with rfl |hk
  .exact q
  .exact(h.arc.lt k hk).1
 .rcases d with e |e
  .left;rw[<-e];exact a
  .right;rw[e]at a;injection a with a;omega
end
set_option maxRecDepth 100000
set_option maxHeartbeats 4000000
theorem oe (bO n0:Nat)(st s0:Int)(fl:List Int)(al:List Arc)(fv av:Value)(f t:Int)(c:UInt8)(w:World)(s:n0<=bO)(A:al.length<=1000000000)(h:gY w n0 bO st s0 fl al fv av):
  Calls prog 147 #[.int .i64 f,.int .i64 t,.int .u8 (c.toNat:Nat),.pointer (some ⟨bO,0,none⟩)] w (fun e w'=>e= .returned (.tuple #[])/\∃l,gY w' n0 bO st s0 fl (al++[⟨f,c.toNat,c.toNat,t⟩]) fv l/\Below n0 w w'/\(∀b cs t,b≠bO->av.ownBlock≠some b->Blk w b cs t->Blk w' b cs t)):=by
 obtain⟨i,j,rfl, -, -⟩:=b8.ah h.arc;obtain⟨u,r,m,n,o⟩:=info_parts mn;have y3:w.cell? ⟨bO,3,none⟩=some (.slice i al.length j):=h.blk.cell 3;have B:=h.blk.lt;have z:c.toNat<256:=c.toNat_lt;have F:IntKind.i64.wrap ((c.toNat:Nat):Int)=(c.toNat:Nat):=IntWalk.i64_in _ (by omega);have H:=bP h;clear h;go_enter func147,ntmps147;go_wp2_with (at_builtin;refine wpList_append_own_at _ rfl _ _ 96 rfl n0 171 u _ 4 32 underlying96 r m n o rfl (by decide) _ _ _ rfl (ownsRow.alloc H.out.arc _) ⟨w.heap.size,0,none⟩ 1 1 [.int .i64 f,.int .i64 (c.toNat:Nat),.int .i64 (c.toNat:Nat),.int .i64 t] rfl rfl (by exact dQ _ _ _) (by simp[Value.oneCell']) (by unfold maxLen;omega) (by omega) (by simp;omega) ?_);intro v9 y a d _ g;obtain⟨C,D,rfl, -, -⟩:=b8.ah a;obtain⟨s1,s2,p,q, -⟩:=H.out.bD s (x:=⟨f,c.toNat,c.toNat,t⟩) (bX.alloc bW _) a d g (by simp);have E:y.cell? ⟨bO,3,none⟩=some (.slice i al.length j):=s2.cell 3;have f3:=s2.frozen 3;have k:=bS s1 q p;clear y3 a d g s1 s2 p q;go_wp2_with fail;refine bodyPost_end (v:= .tuple #[]) (by simp[results,results147,go_sem]) rfl ?_;exact⟨rfl,_,k.out.1,k.out.2.1,k.out.2.2⟩
theorem gY.ag {w:World}{n0 bO:Nat}{st s0:Int}{fl:List Int}{al:List Arc}{fv av:Value}(h:gY w n0 bO st s0 fl al fv av)(a:n0<=bO)(st':Int):
  gY (w.setCell ⟨bO,0,none⟩ (.int .i64 st')) n0 bO st' s0 fl al fv av/\Below n0 w (w.setCell ⟨bO,0,none⟩ (.int .i64 st')):=
 ⟨⟨by have:=h.blk.aj 0 (.int .i64 st');simpa using this,cV h.fin (p:=⟨bO,0,none⟩) (h.blk.own_ne h.fin (by decide)) _,cV h.arc (p:=⟨bO,0,none⟩) (h.blk.own_ne h.arc (by decide)) _⟩,
 (Chg.setCell (S:=fun k=>k=bO) (p:=⟨bO,0,none⟩) w (.inl rfl) _).below (fun k hk=>by omega) (by have:=h.blk.lt;omega)⟩
def vx (A:cr)(w:World)(e:Ending)(w':World):Prop:=
 ∃v C err,e= .returned (.tuple #[v,.int .i64 err])/\dx w' w'.heap.size v C/\Below w.heap.size w w'/\DK A C err
theorem Cv (A:cr)(v:Value)(w:World)(hA:cH w w.heap.size v A):
  Calls prog 90 #[v] w (vx A w):=by
 have be:=hA;obtain⟨U,lc,sa,sc,rfl,hn,bM,b1,bV,C,b2⟩:=hA;obtain⟨m,J⟩:∃m:World,m=(w.alloc (.cells #[.string A.name,.slice U A.letters.length lc,.slice sa A.small.length sc] 83)).alloc (.cells #[.int .i64 0,.int .i64 0,.slice none 0 0,.slice none 0 0] 98):=⟨_,rfl⟩;obtain⟨a,F⟩:∃b,w.heap.size=b:=⟨_,rfl⟩;have aZ:Below a w m:=by rw[J,<-F];exact(bX.alloc bW _).alloc (by simp) _
 have aY:m.heap.size=a+2:=by rw[J,<-F];simp
 have kA:Blk m a #[.string A.name,.slice U A.letters.length lc,.slice sa A.small.length sc] 83:=by rw[J,<-F];exact(Blk.new _ _ _).alloc _
 have kR:Blk m (a+1) #[.int .i64 0,.int .i64 0,.slice none 0 0,.slice none 0 0] 98:=by
  rw[J,<-F];have:=Blk.new (w.alloc (.cells #[.string A.name,.slice U A.letters.length lc,.slice sa A.small.length sc] 83)) #[.int .i64 0,.int .i64 0,.slice none 0 0,.slice none 0 0] 98;simpa using this
 have HM:=bP (fun(wr:World) (N:Below (a+2) m wr)=>And.intro (kA.below N (by omega)) (kR.below N (by omega)));have HA:=bP (fun(wr:World) (N:Below (a+2) m wr)=>(show cH wr wr.heap.size (.agg #[.string A.name,.slice U A.letters.length lc,.slice sa A.small.length sc]) A/\b8 wr wr.heap.size U (strs A.letters)from by
  have h1:Below w.heap.size w wr:=by rw[F];exact aZ.trans (N.mono (by omega))
  exact⟨(be.below h1 bW).more h1.size,(C.below h1 bW).more h1.size⟩))
 have HW:=bT J aZ aY F;clear J aZ aY kA kR be C b2 bV;unfold maxLen at bM b1 hn;go_enter func90,ntmps90;go_upto_region 1 with (fail);clear F;have hW:=HW.out.1;rw[<-hW];clear hW;obtain⟨bR,aN⟩:∃b,b=a+1:=⟨_,rfl⟩;rw[<-aN];have HM:=bP (fun(wr:World) (N:Below (a+2) m wr)=>(show Blk wr a #[.string A.name,.slice U A.letters.length lc,.slice sa A.small.length sc] 83/\Blk wr bR #[.int .i64 0,.int .i64 0,.slice none 0 0,.slice none 0 0] 98 from by rw[aN];exact HM.out wr N));have cp:a<bR/\bR<a+2:=by omega
 clear aN;obtain⟨x, -⟩:=HM.out m bX;have m0:m.cell? ⟨a,0,none⟩=some (.string A.name):=x.cell 0;have m1:m.cell? ⟨a,1,none⟩=some (.slice U A.letters.length lc):=x.cell 1;have m2:m.cell? ⟨a,2,none⟩=some (.slice sa A.small.length sc):=x.cell 2;clear x;go_wp2_with fail;refine(iX A _ m (HA.out m bX).1).mono ?_;clear m0 m1 m2;rintro e f ⟨rfl,M⟩;rw[HW.out.2.2.1]at M;obtain⟨x,n⟩:=HM.out f M;have a1:a+2<=f.heap.size:=by have:=M.size;have:=HW.out.2.2.1;omega
 by_cases hv:cG A;case neg=>
  rw[decide_eq_false hv];have z0:f.cell? ⟨bR,0,none⟩=some (.int .i64 0):=n.cell 0;have z1:f.cell? ⟨bR,1,none⟩=some (.int .i64 0):=n.cell 1;have z2:f.cell? ⟨bR,2,none⟩=some (.slice none 0 0):=n.cell 2;have z3:f.cell? ⟨bR,3,none⟩=some (.slice none 0 0):=n.cell 3;have fz:∀j,f.frozen? ⟨bR,j,none⟩=false:=fun j=>n.frozen j;have t:Below a w f:=HW.out.2.1.trans (M.mono (by omega));have G:=t.trans ((nZ f bR (.int .i64 0) (.int .i64 0) (.slice none 0 0) (.slice none 0 0)).below (B:=a) (fun k hk=>by omega) (by omega));rw[<-HW.out.2.2.2]at G;have bG:=bP G;have bI:=bP hv;clear x n t G hv;go_wp2_with fail;refine bodyPost_ret (v:= .tuple #[.agg #[.int .i64 0,.int .i64 0,.slice none 0 0,.slice none 0 0],.int .i64 1]) (by simp[results,results90,go_sem,z0,z1,z2,z3]) rfl ?_;exact⟨_,ff,1,rfl,uQ _ _,bG.out,.inl ⟨bI.out,rfl,rfl⟩⟩
 rw[decide_eq_true hv];have HV:=bP hv;have m1:f.cell? ⟨a,1,none⟩=some (.slice U A.letters.length lc):=x.cell 1;have bb:=bP M;clear x n hv M;go_upto_region 4 with (fail);generalize ar:((f.alloc _).alloc _)=W3;obtain⟨n0,O⟩:∃b,f.heap.size=b:=⟨_,rfl⟩;have kF:Blk W3 n0 #[.int .i64 1] 3:=by rw[<-ar,<-O];exact(Blk.new _ _ _).alloc _
 have kO:Blk W3 (n0+1) #[.int .i64 2,.int .i64 0,.slice (some ⟨n0,0,none⟩) 1 1,.slice none 0 0] 98:=by
  rw[<-ar,<-O];have:=Blk.new (f.alloc (.cells #[.int .i64 1] 3)) #[.int .i64 2,.int .i64 0,.slice (some ⟨f.heap.size,0,none⟩) 1 1,.slice none 0 0] 98;simpa using this
 have aM:Below n0 f W3:=by rw[<-ar,<-O];exact(bX.alloc bW _).alloc (by simp) _
 have aI:gY W3 n0 (n0+1) 2 0 [1] [] (.slice (some ⟨n0,0,none⟩) 1 1) (.slice none 0 0):=
  ⟨kO,⟨rfl,.inr ⟨n0,1,_,rfl,bW,kF,bW,by unfold maxLen;omega,rfl,rfl⟩⟩,ownsRow_nil _ _ _ _⟩
 rw[O]at a1⊢;have b7:W3.cell? ⟨a,1,none⟩=some (.slice U A.letters.length lc):=(aM.cell (p:=⟨a,1,none⟩) (by show a<n0;omega)).trans m1;obtain⟨bO,bj⟩:∃b,b=n0+1:=⟨_,rfl⟩;rw[<-bj]at aI⊢;have cu:n0<bO/\bO<=n0+1:=by omega
 have H3:=bS aI aM O;clear ar kF kO aM aI O m1 bj;go_wp2_with fail;have hlen:A.bls.length=A.letters.length:=by unfold cr.bls;rw[length_map]
 have cn:A.letters.length<=64:=HV.out.1.2.2.1;have bh:∀l∈A.bls,1<=l.length/\l.length<=3:=(fC HV.out).len;have i:=bQ hlen bh;clear hlen bh b7;go_loopw [21] (fun a7 wr=>∃(k:Nat) (av:Value),k<=A.letters.length/\a7= .int .i64 k/\gY wr n0 bO ((cpS A.bls k:Nat):Int) 0 [1] (cpA A.bls k) (.slice (some ⟨n0,0,none⟩) 1 1) av/\Below n0 f wr) (fun a7 _=>A.letters.length-(intOf a7).toNat);case atStart=>exact⟨0,_,zero_le _,rfl,H3.out.1,H3.out.2.1⟩
 case round=>
  obtain⟨k,av,hk,rfl,hO,y⟩:=hrel;by_cases aj:k<A.letters.length
  .have aW:=(HA.out wr (bb.out.trans (y.mono a1))).2;obtain⟨lb,lo,rfl, -,bt⟩:=aW.strs (by omega);have x0:=bt k aj;have bm:A.bls[k]'(by rw[i.out.1];exact aj)=bl A.letters[k]:=by simp[cr.bls]
   have aU:A.bls[k]'(by rw[i.out.1];exact aj)∈A.bls:=getElem_mem _;have Q:=vZ (LS:=A.bls) (k:=k) (by rw[i.out.1];exact aj);have E:=ru (LS:=A.bls) (k:=k) (by rw[i.out.1];exact aj);have aX:=i.out.2 _ aU;rw[bm]at Q E aX;obtain⟨s,hs⟩:∃s,A.letters[k]=s:=⟨_,rfl⟩;rw[hs]at x0 Q E aX;have G:(bl s).length=s.size:=by unfold bl;simp
   have aP:cpS A.bls k<=130:=by
    have h1:=im (A.bls.take k) 2 (fun l C=>(i.out.2 l (mem_of_mem_take C)).2);have h2:(A.bls.take k).length<=64:=by rw[length_take,i.out.1];omega
    unfold cpS;omega
   have aH:(cpA A.bls k).length<=384:=by
    have:=nC (fun l C=>(i.out.2 l C).2) k (by rw[i.out.1];omega);omega
   obtain⟨b,bk⟩:∃b,cpS A.bls k=b:=⟨_,rfl⟩;obtain⟨L,I⟩:∃L,cpA A.bls k=L:=⟨_,rfl⟩;rw[bk]at hO Q E aP;rw[I]at hO E aH;rw[G]at aX Q E;have HK:=bS Q E G;have HR:=bQ hO y;clear aW bt bm aU Q E hs bk I hO y G;obtain⟨wo,rfl⟩:∃wo:World,wo=wr:=⟨_,rfl⟩;go_wp2_with fail;have aT:decide ((k:Int)<(A.letters.length:Int))=true:=bZ;try rw[aT]
   clear aT x0;go_loopw [8,27] (fun s8 a8 wx=>∃(j:Nat) (Y:Value) (z:Int),j<=s.size/\a8= .int .i64 j/\s8= .int .i64 z/\(j<s.size->z=eR b j)/\gY wx n0 bO ((b+min j (s.size-1):Nat):Int) 0 [1] (L++fr (bl s) b j) (.slice (some ⟨n0,0,none⟩) 1 1) Y/\Below n0 f wx) (fun _ a8 _=>s.size-(intOf a8).toNat);case atStart=>exact⟨0,av,0,zero_le _,rfl,rfl,fun _=>rfl,by simpa [fr]using HR.out.1,HR.out.2⟩
   case round=>
    obtain⟨j,Y,z,cq,rfl,rfl,hz,hO,y⟩:=hrel;by_cases bp:j<s.size
    .have o0:wr.cell? ⟨bO,0,none⟩=some (.int .i64 ((b+min j (s.size-1):Nat):Int)):=hO.blk.cell 0;have bu:=hO.blk.frozen 0;obtain rfl:=hz bp;have u:dv (bl s) j=((s[j].toNat:Nat):Int):=by unfold dv;rw[dU s j bp]
     have bL:=ry (bl s) b j;obtain⟨H,aq⟩:∃H,L++fr (bl s) b j=H:=⟨_,rfl⟩;have ct:H.length<=400:=by rw[<-aq,length_append];omega
     have P:L++fr (bl s) b (j+1)=H++fY (bl s) b j:=by rw[px,<-append_assoc,aq]
     rw[aq]at hO;clear aq bL hz;by_cases bN:j+1<s.size
     .have d:((b+min (j+1) (s.size-1):Nat):Int)=((b:Int)+(j:Int)+1):=by omega
      have c:gh (bl s) b j=((b:Int)+(j:Int)):=by rw[pO (by rw[HK.out.2.2];exact bN)];omega
      have ak:j+1<s.size->((b:Int)+(j:Int))=eR b (j+1):=fun h=>by rw[<-c];exact(mL (by rw[HK.out.2.2];exact h)).symm
      have ai:j≠0->L++fr (bl s) b (j+1)=H++[⟨eR b j,(s[j].toNat:Nat),(s[j].toNat:Nat),((b:Int)+(j:Int))⟩]:=fun h=>by
       rw[P];unfold fY;rw[if_neg h,u,c]
      have af:j=0->L++fr (bl s) b (j+1)=(H++[⟨eR b j,(s[j].toNat:Nat),(s[j].toNat:Nat),((b:Int)+(j:Int))⟩])++[⟨1,(s[j].toNat:Nat),(s[j].toNat:Nat),((b:Int)+(j:Int))⟩]:=fun h=>by
       have h1:dv (bl s) 0=((s[j].toNat:Nat):Int):=by rw[<-u,h]
       have h2:gh (bl s) b 0=((b:Int)+(j:Int)):=by rw[<-c,h]
       rw[P];unfold fY;rw[if_pos h,u,c,h1,h2];simp
      have r:=bT d ak ai af;have e1:IntKind.i64.wrap (((b+j:Nat):Int)+1)=((b+(j+1):Nat):Int):=by rw[IntWalk.i64_in _ (by omega)];omega
      have aV:min j (s.size-1)=j:=by omega
      rw[aV]at o0 hO;have aJ:=hO.ag (by omega) ((b:Int)+(j:Int)+1);have HO:=bQ aJ.1 (y.trans aJ.2);clear aJ aV;clear d c ak ai af hO y u P;go_wp2_with fail;refine(oe bO n0 _ 0 [1] H _ Y (eR b j) ((b:Int)+(j:Int)) s[j] _ (by omega) (by omega) HO.out.1).mono ?_;clear o0 bu;rintro e V ⟨rfl,Z,aa,ad, -⟩;have R:=bQ aa (HO.out.2.trans ad);clear aa ad;by_cases o:j=0
      .have d1:((j:Int)==0)=true:=by simp[o]
       have Hj:=bP o;clear o;go_wp2_with fail;refine(oe bO n0 _ 0 [1] _ _ Z 1 ((b:Int)+(j:Int)) s[j] _ (by omega) (by rw[length_append];simp;omega) R.out.1).mono ?_;rintro e w6 ⟨rfl,aG,ab,ae, -⟩;have H6:=bQ ab (R.out.2.trans ae);clear ab ae;go_wp2_with fail;exact⟨⟨j+1,aG,_,by omega,by go_num,rfl,r.out.2.1,by rw[r.out.1,r.out.2.2.2 Hj.out];exact H6.out.1,H6.out.2⟩,by simp[intOf];omega⟩
      .have d1:((j:Int)==0)=false:=by simp;omega
       have Hj:=bP o;go_wp2_with fail;exact⟨⟨j+1,Z,_,by omega,by go_num,rfl,r.out.2.1,by rw[r.out.1,r.out.2.2.1 Hj.out];exact R.out.1,R.out.2⟩,by simp[intOf];omega⟩
     .have d:((b+min (j+1) (s.size-1):Nat):Int)=((b+min j (s.size-1):Nat):Int):=by omega
      have c:gh (bl s) b j=1:=by exact sA (by rw[HK.out.2.2];omega)
      have ak:j+1<s.size->1=eR b (j+1):=fun h=>by rw[<-c];exact(mL (by rw[HK.out.2.2];exact h)).symm
      have ai:j≠0->L++fr (bl s) b (j+1)=H++[⟨eR b j,(s[j].toNat:Nat),(s[j].toNat:Nat),1⟩]:=fun h=>by
       rw[P];unfold fY;rw[if_neg h,u,c]
      have af:j=0->L++fr (bl s) b (j+1)=(H++[⟨eR b j,(s[j].toNat:Nat),(s[j].toNat:Nat),1⟩])++[⟨1,(s[j].toNat:Nat),(s[j].toNat:Nat),1⟩]:=fun h=>by
       have h1:dv (bl s) 0=((s[j].toNat:Nat):Int):=by rw[<-u,h]
       have h2:gh (bl s) b 0=1:=by rw[<-c,h]
       rw[P];unfold fY;rw[if_pos h,u,c,h1,h2];simp
      have r:=bT d ak ai af;have HO:=bQ hO y;clear d c ak ai af hO y u P;go_wp2_with fail;refine(oe bO n0 _ 0 [1] H _ Y (eR b j) 1 s[j] _ (by omega) (by omega) HO.out.1).mono ?_;clear o0 bu;rintro e V ⟨rfl,Z,aa,ad, -⟩;have R:=bQ aa (HO.out.2.trans ad);clear aa ad;by_cases o:j=0
      .have d1:((j:Int)==0)=true:=by simp[o]
       have Hj:=bP o;clear o;go_wp2_with fail;refine(oe bO n0 _ 0 [1] _ _ Z 1 1 s[j] _ (by omega) (by rw[length_append];simp;omega) R.out.1).mono ?_;rintro e w6 ⟨rfl,aG,ab,ae, -⟩;have H6:=bQ ab (R.out.2.trans ae);clear ab ae;go_wp2_with fail;exact⟨⟨j+1,aG,_,by omega,by go_num,rfl,r.out.2.1,by rw[r.out.1,r.out.2.2.2 Hj.out];exact H6.out.1,H6.out.2⟩,by simp[intOf];omega⟩
      .have d1:((j:Int)==0)=false:=by simp;omega
       have Hj:=bP o;go_wp2_with fail;exact⟨⟨j+1,Z,_,by omega,by go_num,rfl,r.out.2.1,by rw[r.out.1,r.out.2.2.1 Hj.out];exact R.out.1,R.out.2⟩,by simp[intOf];omega⟩
    .obtain rfl:j=s.size:=by omega
     have d:b+min s.size (s.size-1)=b+s.size-1:=by omega
     rw[d]at hO;have HZ:=bQ hO y;clear hO y d hz;go_wp2_with fail;exact⟨⟨k+1,Y,by omega,by go_num,by rw[HK.out.1,HK.out.2.1];exact HZ.out.1,HZ.out.2⟩,by simp[intOf];omega⟩
  .obtain rfl:k=A.letters.length:=by omega
   obtain⟨X,rfl⟩:∃X:World,X=wr:=⟨_,rfl⟩;have aL:cpS A.bls A.letters.length=de 2 A.bls:=by unfold cpS;rw[<-i.out.1,take_length]
   have bf:cpA A.bls A.letters.length=gN 2 A.bls:=by unfold cpA;rw[<-i.out.1,take_length]
   have aH:(cpA A.bls A.letters.length).length<=384:=by
    have:=nC (fun l C=>(i.out.2 l C).2) A.letters.length (by rw[i.out.1];omega);omega
   have aP:de 2 A.bls<=130:=by
    have h1:=im A.bls 2 (fun l C=>(i.out.2 l C).2);rw[i.out.1]at h1;omega
   have aR:∀S,gI (cpA A.bls A.letters.length) S->mD A.bls ⟨(de 2 A.bls:Nat),0,[1],S⟩:=fun S hS=>se (fun l C=>(i.out.2 l C).1) (by rw[<-bf];exact hS);have an:=bP aR;obtain⟨st,d⟩:∃st,de 2 A.bls=st:=⟨_,rfl⟩;obtain⟨L,I⟩:∃L,cpA A.bls A.letters.length=L:=⟨_,rfl⟩;rw[d]at aL aP an;rw[aL,I]at hO;rw[I]at aH an;clear aR aL bf d I;obtain⟨bc,bd,rfl, -, -⟩:=b8.ah hO.arc;have o0:X.cell? ⟨bO,0,none⟩=some (.int .i64 (st:Nat)):=hO.blk.cell 0;have o1:X.cell? ⟨bO,1,none⟩=some (.int .i64 0):=hO.blk.cell 1;have o2:X.cell? ⟨bO,2,none⟩=some (.slice (some ⟨n0,0,none⟩) 1 1):=hO.blk.cell 2;have o3:X.cell? ⟨bO,3,none⟩=some (.slice bc L.length bd):=hO.blk.cell 3;have aO:Below (a+2) m X:=bb.out.trans (y.mono a1);obtain⟨-,n⟩:=HM.out X aO;have bq:=hO.blk.lt;have T:=bT hO n aO bq;clear hO y n aO bq;go_wp2_with fail;refine(C9 (st:Nat) 0 (some ⟨n0,0,none⟩) 1 1 L (.slice bc L.length bd) n0 X (by omega) T.out.1.arc).mono ?_;clear o0 o1 o2 o3;rintro e V ⟨S,hS,au,bz⟩;have cb:=hS.len;have D:=T.out.2.1.chg au (fun h=>by have:=(T.out.1.arc.lt _ h).1;omega);have bg:=fj T.out.1.fin au (fun g e h=>by
    rcases own_ne T.out.1.fin T.out.1.arc (by decide)with q |q
    .rw[q]at e;cases e
    .exact q (e.trans h.symm))
   have t:Below a w V:=(HW.out.2.1.trans (T.out.2.2.1.mono (by omega))).trans (au.below (fun k h=>by have:=(T.out.1.arc.lt _ h).1;omega) (by have:=T.out.2.2.2;omega));have aw:=HW.out.2.2.2;have z0:V.cell? ⟨bR,0,none⟩=some (.int .i64 0):=D.cell 0;have z1:V.cell? ⟨bR,1,none⟩=some (.int .i64 0):=D.cell 1;have z2:V.cell? ⟨bR,2,none⟩=some (.slice none 0 0):=D.cell 2;have z3:V.cell? ⟨bR,3,none⟩=some (.slice none 0 0):=D.cell 3;have fz:∀j,V.frozen? ⟨bR,j,none⟩=false:=fun j=>D.frozen j;have HU:=bU (an.out S hS) D bg t aw;clear hS au D bg t aw;rcases bz with ⟨bx,rfl⟩ |⟨-,aS,cS,rfl,br⟩
   .exfalso;unfold nr at bx;omega
   .have aQ:=nZ V bR (.int .i64 (st:Nat)) (.int .i64 0) (.slice (some ⟨n0,0,none⟩) 1 1) (.slice aS S.length cS);have Hm:=bP ((ui (fl:=[1]) (fva:=some ⟨n0,0,none⟩) (fvc:=1) (st:=(st:Nat)) (s0:=0) (cS:=cS) HU.out.2.1 HU.out.2.2.1 br (by unfold maxLen;omega) (by simp[maxLen])).2 _ aQ);have bH:=bP aQ;clear aQ br;go_wp2_with fail;refine bodyPost_ret (v:= .tuple #[.agg #[.int .i64 (st:Nat),.int .i64 0,.slice (some ⟨n0,0,none⟩) 1 1,.slice aS S.length cS],.int .i64 0]) (by simp[results,results90,go_sem,z0,z1,z2,z3]) rfl ?_;refine⟨_,_,0,rfl,Hm.out,?_,.inr ⟨HV.out,rfl,HU.out.1⟩⟩;have t:=HU.out.2.2.2.1;have aw:=HU.out.2.2.2.2;rw[aw];exact t.trans (bH.out.below (fun k hk=>by omega) (by have:=t.size;omega))
end
end Go.Proofs.YtmhdgddjeadjjaaGreatDoor
