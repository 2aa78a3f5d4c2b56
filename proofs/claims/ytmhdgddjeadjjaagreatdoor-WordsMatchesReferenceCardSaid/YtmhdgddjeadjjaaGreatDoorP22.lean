/- A part of the proof: what the claim reaches. -/
import Derived.Test.YtmhdgddjeadjjaaGreatDoorP21
import Derived.Shelf.Strings.SplitCore
import Derived.Shelf.Strings.Count
import Derived.Lib.SplitLaws
import Derived.Test.YtmhdgddjeadjjaaGreatDoorSortX
namespace Go.Proofs.YtmhdgddjeadjjaaGreatDoor
open _root_.List Go.Lib _root_.Nat Go.World _root_.Int Go.Proofs.Tryz
variable {xs:List Value}{b k:Nat}
section
open Go.RowKit Classical
open Go.Shelf
set_option maxRecDepth 100000
set_option maxHeartbeats 4000000
theorem iu (s:ByteArray)(u:s.size<=maxLen)(w:World):
  Calls prog 41 #[.string s] w fun e w'=>e= .returned (.bool (df (bl s)))/\Below w.heap.size w w':=by
 go_enter func41,ntmps41;go_wp2_with fail;refine(ti s u w).mono ?_;rintro e v ⟨y,c,err,off,T,rfl,q,j,k,i⟩;have d:=bP k;clear k;by_cases he:err=0
 .subst he;by_cases h1:T.length=1
  .obtain⟨t,rfl⟩:∃t,T=[t]:=by
    cases T with
    |nil=>simp at h1
    |cons t r=>cases r with
     |nil=>exact⟨t,rfl⟩
     |cons a b=>simp at h1
   obtain⟨b,o,rfl,_,m⟩:=j (by simp[gy,Tok.cells,cL]);have c0:=m 0 (.int .i64 t.kind) (by simp[gy,Tok.cells,cL]);have c3:=m 3 (.string t.text) (by simp[gy,Tok.cells,cL]);have x:v.cell? ⟨b,o,none⟩=some (.int .i64 t.kind):=c0;clear m h1 q j;by_cases hk:t.kind=1
   .have d1:(t.kind==1)=true:=by simp[hk]
    by_cases g:t.text=s
    .have d2:(t.text.toList==s.toList)=true:=by rw[g];simp
     have f:=bQ hk g;clear hk g;go_wp2_with fail;go_ret;refine⟨cX ?_,i⟩;rw[eq_comm,d.out];exact⟨by trivial,t,rfl,f.out.1,f.out.2⟩
    .have d2:(t.text.toList==s.toList)=false:=by
      rw[ByteArray.toList_eq,ByteArray.toList_eq,beq_eq_false_iff_ne];exact fun e=>g (cY e)
     have f:=bP g;clear hk g;go_wp2_with fail;go_ret;refine⟨cX ?_,i⟩;rw[eq_comm,<-Bool.not_eq_true,d.out];rintro⟨_,n,e,_,l⟩;obtain rfl:t=n:=by simpa using e
     exact f.out l
   .have d1:(t.kind==1)=false:=by simpa using hk
    have f:=bP hk;clear hk;go_wp2_with fail;go_ret;refine⟨cX ?_,i⟩;rw[eq_comm,<-Bool.not_eq_true,d.out];rintro⟨_,n,e,l,_⟩;obtain rfl:t=n:=by simpa using e
    exact f.out l
  .have d1:((T.length:Int)==1)=false:=by simp;omega
   have H1:=bP h1;clear h1;go_wp2_with fail;go_ret;refine⟨cX ?_,i⟩;rw[eq_comm,<-Bool.not_eq_true,d.out];rintro⟨_,t,rfl,_⟩;exact H1.out rfl
 .have d1:(err==0)=false:=by simpa using he
  have p:=bP he;clear he;go_wp2_with fail;go_ret;refine⟨cX ?_,i⟩;rw[eq_comm,<-Bool.not_eq_true,d.out];exact fun h=>p.out h.1
theorem DY (c:UInt8)(h:c.toNat<128):py c.toNat=!kg c:=by
 unfold py kg;generalize c.toNat=n at *;rw[Bool.eq_iff_iff];simp only[Bool.or_eq_true,decide_eq_true_eq,Bool.not_eq_true',Bool.and_eq_false_iff,decide_eq_false_iff_not];omega
theorem A4 (c:UInt8)(h:¬c.toNat<128):kg c=false:=by
 unfold kg;simp;intros;omega
theorem yR (s:ByteArray):∀(f pos:Nat),s.size-pos<=f->(0<=idxFuncFrom py true s f pos↔∃j,∃h:j<s.size,pos<=j/\kg s[j]=false)
 |0,pos,g=>by
  constructor
  .intro h;rw[idxFuncFrom]at h;exact absurd h (by decide)
  .rintro⟨j,h,h1,_⟩;omega
 |f+1,pos,g=>by
  unfold idxFuncFrom;by_cases hp:pos<s.size
  .rw[if_pos hp];by_cases a:(s[pos]).toNat<128
   .rw[sh s pos hp a];simp only;rw[DY _ a];by_cases c:kg s[pos]=true
    .rw[c,if_neg (by simp),yR s f (pos+1) (by omega)];constructor
     .rintro⟨j,h,h1,b⟩;exact⟨j,h,by omega,b⟩
     .rintro⟨j,h,h1,b⟩;refine⟨j,h,?_,b⟩;rcases Nat.lt_or_ge pos j with e |e
      .omega
      .have:j=pos:=by omega
       subst this;rw[c]at b;cases b
    .have d:kg s[pos]=false:=by simpa using c
     rw[d,if_pos (by simp)];exact⟨fun _=>⟨pos,hp,bW,d⟩,fun _=>by omega⟩
   .have i:=decode_high s pos hp a;rw[if_pos (by unfold py;simp;omega)];exact⟨fun _=>⟨pos,hp,bW,A4 _ a⟩,fun _=>by omega⟩
  .rw[if_neg hp];constructor
   .intro h;exact absurd h (by decide)
   .rintro⟨j,h,h1,_⟩;omega
theorem vW (s:ByteArray):decide (0<=idxFunc py true s)=!rA (bl s):=by
 have h:=yR s s.size 0 (by omega);unfold idxFunc;rw[Bool.eq_iff_iff,decide_eq_true_eq,h];simp only[rA,Bool.not_eq_true',all_eq_false];constructor
 .rintro⟨j,a,_,hp⟩;exact⟨s[j],mem_of_getElem? (dU s j a),by rw[hp];simp⟩
 .rintro⟨c,d,hp⟩;obtain⟨j,a⟩:=getElem?_of_mem d;have b:j<s.size:=by rw[<-b9];exact(List.getElem?_eq_some_iff.1 a).1
  rw[dU s j b]at a;obtain rfl:=Option.some.inj a;exact⟨j,b,zero_le _,by simpa using hp⟩
theorem zF (r:Nat)(w:World):
  Calls prog 66 #[.int .i32 (r:Int)] w fun e w'=>e= .returned (.bool (py r))/\w'=w:=by
 go_enter func66,ntmps66;go_wp2;all_goals (go_ret;refine⟨cX ?_,rfl⟩;unfold py;rw[Bool.eq_iff_iff];simp[*];try omega)
theorem kU (s:ByteArray)(b:Nat)(w:World):
  Calls prog 28 #[.string s,.int .i64 b] w fun e w'=>e= .returned (.bool (decide (eY s b)))/\Below w.heap.size w w':=by
 have hC:=fun w=>strings_ContainsFunc 66 #[] (enters_of func66 (by kernel_rfl) rfl) py s w (fun W x _=>(zF x W).mono fun e w' h=>⟨h.1,0,by rw[h.2];rfl⟩);rw[vW]at hC;have d:=bP hC;clear hC;go_enter func28,ntmps28;by_cases h1:bl s=[]
 .have f:s.toList.isEmpty=true:=(gx s).2 h1;have a:s.size=0:=by rw[<-b9,h1];rfl
  have H:=bP a;clear h1 a;go_wp2_with fail;go_ret;exact⟨cj (fun h=>by have:=h.2.1;have:=H.out;omega),bX⟩
 .have f:s.toList.isEmpty=false:=by
   have:=mt (gx s).1 h1;simpa using this
  have a:1<=s.size:=by
   rcases eq_zero_or_pos s.size with h |h
   .exact absurd (eq_nil_of_length_eq_zero (by rw[b9];exact h)) h1
   .exact h
  clear h1;by_cases c:s.size<=b
  .have i:decide ((s.size:Int)<=(b:Int))=true:=by simpa using c
   go_wp2_with fail;refine(d.out _).mono ?_;rintro e j ⟨rfl,g⟩;go_wp2_with fail;all_goals
    go_ret;refine⟨fy ?_,g⟩;simp[eY,a,c]
  .go_wp2_with fail;go_ret;exact⟨cj (fun h=>c h.2.2),bX⟩
end
section
open Go.RowKit Classical
def ns (t:ByteArray):Prop:=¬eY t 120
set_option maxRecDepth 100000
theorem El (s:ByteArray)(w:World):
  Calls prog 27 #[.string s] w fun e w'=>e= .returned (.bool (decide (ns s)))/\Below w.heap.size w w':=by
 have c:=bP (kU s 120 w);have b:(!decide (eY s 120))=decide (ns s):=by
  by_cases h:eY s 120
  .rw[decide_eq_true h,decide_eq_false (show¬ns s from fun q=>q h)];rfl
  .rw[decide_eq_false h,decide_eq_true (show ns s from h)];rfl
 have d:=bP b;clear b;go_enter func27,ntmps27;go_wp2_with (refine c.out.mono ?_;rintro e f ⟨rfl,a⟩);go_ret;exact⟨cX d.out,a⟩
set_option maxHeartbeats 4000000
theorem CN (x y:List ByteArray)(u v:Option Addr)(G H:Nat)(E:x.length<=maxLen)(F:y.length<=maxLen)(B:Nat)(w:World)(l:b8 w B u (strs x))(m:b8 w B v (strs y)):
  Calls prog 37 #[.slice u x.length G,.slice v y.length H] w fun e w'=>e= .returned (.int .i64 (cmpL x y))/\w'=w:=by
 unfold maxLen at E F;have z:=bP (fun(k:Nat) (hk:k<x.length)=>l.strs (by omega));have A:=bP (fun(k:Nat) (hk:k<y.length)=>m.strs (by omega));clear l m;go_enter func37,ntmps37;go_wp2_with fail;go_loop [11] (fun i=>∃k:Nat,k<=x.length/\k<=y.length/\i= .int .i64 k/\cmpL x y=cmpL (x.drop k) (y.drop k)) (fun i=>x.length-(intOf i).toNat);case atStart=>exact⟨0,zero_le _,zero_le _,rfl,rfl⟩
 case round=>
  obtain⟨k,I,J,rfl,r⟩:=hrel;have b:=bP r;clear r;by_cases h1:k<x.length
  .obtain⟨g,o,rfl, -,p⟩:=z.out k h1;have c0:=p k h1;clear p;by_cases c:k<y.length
   .obtain⟨g',L,rfl, -,q⟩:=A.out k c;have d0:=q k c;clear q;have d:=bP (show cmpL x y=if gi x[k] y[k]=0 then cmpL (x.drop (k+1)) (y.drop (k+1)) else gi x[k] y[k] by rw[b.out,drop_eq_getElem_cons h1,drop_eq_getElem_cons c];rfl);obtain⟨s,f⟩:∃s,x[k]=s:=⟨_,rfl⟩;obtain⟨t,j⟩:∃t,y[k]=t:=⟨_,rfl⟩;rw[f]at c0 d;rw[j]at d0 d;clear f j;by_cases he:gi s t=0
    .have a:=bP (show cmpL x y=cmpL (x.drop (k+1)) (y.drop (k+1)) by rw[d.out,if_pos he]);have C:=bP he;clear he;go_wp2_with (go_at_call 73;refine(vU s t _).mono ?_;rintro e n ⟨rfl,hw⟩;subst n;rw[C.out]);exact⟨⟨k+1,by omega,by omega,by go_num,a.out⟩,by simp[intOf];omega⟩
    .have d1:(gi s t != 0)=true:=by simpa using he
     have a:=bP (show cmpL x y=gi s t by rw[d.out,if_neg he]);clear he;go_wp2_with (go_at_call 73;refine(vU s t _).mono ?_;rintro e n ⟨rfl,hw⟩;subst n);go_ret;exact⟨dL a.out.symm,rfl⟩
   .have a:=bP (show cmpL x y=1 by rw[b.out,drop_eq_getElem_cons h1,drop_of_length_le (show y.length<=k by omega)];rfl);go_wp2_with fail;go_ret;exact⟨dL a.out.symm,rfl⟩
  .have D:k=x.length:=by omega
   by_cases c:x.length<y.length
   .have a:=bP (show cmpL x y= -1 by rw[b.out,drop_of_length_le (show x.length<=k by omega),drop_eq_getElem_cons (show k<y.length by omega)];rfl);go_wp2_with fail;go_ret;exact⟨dL a.out.symm,rfl⟩
   .have a:=bP (show cmpL x y=0 by rw[b.out,drop_of_length_le (show x.length<=k by omega),drop_of_length_le (show y.length<=k by omega)];rfl);go_wp2_with fail;go_ret;exact⟨dL a.out.symm,rfl⟩
def mh (x y:Int):Int:=if x<y then -1 else if y<x then 1 else 0
theorem zV (x:Int)(w:World):Calls prog 72 #[.int .i64 x] w fun e w'=>e= .returned (.bool false)/\w'=w:=by
 go_enter func72,ntmps72;go_wp2;go_ret;exact⟨by simp,rfl⟩
theorem CR (a b:Int)(w:World):Calls prog 36 #[.int .i64 a,.int .i64 b] w fun e w'=>e= .returned (.int .i64 (mh a b))/\w'=w:=by
 go_enter func36,ntmps36;have c:=fun s w=>zV s w;go_wp2_with fail;refine(c _ _).mono ?_;rintro e w' ⟨rfl,hw⟩;subst hw;go_wp2_with fail;refine(c _ _).mono ?_;rintro e w' ⟨rfl,hw⟩;subst hw;go_wp2_with fail;all_goals go_ret
 all_goals refine⟨?_,rfl⟩
 all_goals unfold mh
 all_goals first |(rw[if_pos (by assumption)];rfl) |(rw[if_neg (by omega),if_pos (by omega)];rfl) |(rw[if_neg (by omega),if_neg (by omega)];rfl)
structure Spl where
 at_:Option Addr
 cap:Nat
 ws:List ByteArray
 cost:Int
def Spl.cells (x:Spl):List Value:=[.slice x.at_ x.ws.length x.cap,.int .i64 x.cost]
def Spl.v (x:Spl):Value:= .agg #[.slice x.at_ x.ws.length x.cap,.int .i64 x.cost]
def Spl.ok (w:World)(B:Nat)(x:Spl):Prop:=x.ws.length<=maxLen/\b8 w B x.at_ (strs x.ws)
def ka (x y:List ByteArray×Int):Int:=orI [mh x.2 y.2,cmpL x.1 y.1]
theorem nB {x y:List ByteArray×Int}:ka x y<0↔ltX x y:=by
 have h1:∀a b:Int,orI [a,b]<0↔a<0\/(a=0/\b<0):=by
  intro a b;simp only[orI];split
  .split<;>omega
  .omega
 have c:mh x.2 y.2<0↔x.2<y.2:=by
  unfold mh;split
  .omega
  .split<;>omega
 have d:mh x.2 y.2=0↔x.2=y.2:=by
  unfold mh;split
  .omega
  .split<;>omega
 unfold ka ltX;rw[h1,c,d]
theorem En (x y:Spl)(B:Nat)(w:World)(H:B<=w.heap.size)(D:x.ok w B)(L:y.ok w B):
  Calls prog 34 #[x.v,y.v] w fun e w'=>e= .returned (.int .i64 (ka (x.ws,x.cost) (y.ws,y.cost)))/\∃M N k n,w'=((((w.alloc M).alloc N).alloc k).drewN n):=by
 obtain⟨l,m,xs,c⟩:=x;obtain⟨o,q,b,d⟩:=y;obtain⟨u,g⟩:=D;obtain⟨z,j⟩:=L;dsimp only at u z g j;unfold Spl.v;dsimp only;obtain⟨a,f⟩:∃a:World,a=(w.alloc (.cells #[.slice l xs.length m,.int .i64 c] 48)).alloc (.cells #[.slice o b.length q,.int .i64 d] 48):=⟨_,rfl⟩;have A:Blk a w.heap.size #[.slice l xs.length m,.int .i64 c] 48:=by rw[f];exact(Blk.new _ _ _).alloc _
 have C:Blk a (w.heap.size+1) #[.slice o b.length q,.int .i64 d] 48:=by
  rw[f];have:=Blk.new (w.alloc (.cells #[.slice l xs.length m,.int .i64 c] 48)) #[.slice o b.length q,.int .i64 d] 48;simpa using this
 have t:Below w.heap.size w a:=by rw[f];exact(bX.alloc bW _).alloc (by simp) _
 have a0:=A.cell 0;have E:=A.cell 1;have F:=C.cell 0;have G:=C.cell 1;simp only[getElem?_toArray,getElem?_cons_zero,getElem?_cons_succ]at a0 E F G;have J:=bP (fun(wr:World) (h:Below w.heap.size w wr)=>(CN xs b l o m q u z B wr (g.below h H) (j.below h H)));have r:=bP f;have s:=bP t;clear f A C t g j;go_enter func34,ntmps34;go_upto_region 1 with (fail);rw[<-r.out];have P:=new_ne a _ a0;have Q:=new_ne a _ E;have R:=new_ne a _ F;have S:=new_ne a _ G;have I:=bP (show Calls prog 35 #[.slice (some ⟨a.heap.size,0,none⟩) 2 2] (a.alloc (.cells #[.int .i64 (mh c d),.int .i64 (cmpL xs b)] 3)).drew fun e w'=>e= .returned (.int .i64 (ka (xs,c) (b,d)))/\w'=(a.alloc (.cells #[.int .i64 (mh c d),.int .i64 (cmpL xs b)] 3)).drew from
  rV [mh c d,cmpL xs b] (some ⟨a.heap.size,0,none⟩) 2 (a.heap.size+1) (by simp[maxLen]) _ (fun _=>⟨_,0,rfl,by omega,fun i x D=>by rw[Nat.zero_add];exact Box.new a (nums [mh c d,cmpL xs b]) 3 i x D⟩))
 go_cut [4] (fun p O=>p= .int .i64 (ka (xs,c) (b,d))/\∃k n,O=(a.alloc k).drewN n);case first=>
  go_region_held3 (fun w'=>w'.cell? ⟨w.heap.size,0,none⟩=some (.slice l xs.length m)/\w'.cell? ⟨w.heap.size,1,none⟩=some (.int .i64 c)/\w'.cell? ⟨w.heap.size+1,0,none⟩=some (.slice o b.length q)/\w'.cell? ⟨w.heap.size+1,1,none⟩=some (.int .i64 d)) (go_keep)
   (first |(go_at_call 36;refine(CR _ _ _).mono ?_;rintro e w' ⟨rfl,rfl⟩) |(go_at_call 37;refine(J.out _ (by first |exact s.out |exact s.out.drew)).mono ?_;rintro e w' ⟨rfl,rfl⟩) |(go_at_call 35;refine I.out.mono ?_;rintro e w' ⟨rfl,rfl⟩) |fail)
  all_goals (go_wp2_with fail;go_meet;exact⟨rfl,_,1,rfl⟩)
 case rest=>
  obtain⟨rfl,k,n,rfl⟩:=hcut;go_wp2_with fail;go_ret;exact⟨rfl,_,_,k,n,by rw[r.out]⟩
end
section
open Go.RowKit Go.Shelf Go.Lib Go.Sort Classical
section
variable {α : Type}
theorem lH {enc:α->List Value}(hk:∀x,(enc x).length=k)(b:0<k):∀(l:List α) (t:Nat),t<l.length*k->∃x,l[t/k]?=some x/\(l.flatMap enc)[t]?=(enc x)[t%k]?
 |[],t,a=>by simp at a
 |x::l,t,a=>by
  rw[flatMap_cons];by_cases h:t<k
  .refine⟨x,by rw[div_eq_of_lt h];rfl,?_⟩;rw[getElem?_append_left (by rw[hk];exact h),mod_eq_of_lt h]
  .obtain⟨s,rfl⟩:∃s,t=s+k:=⟨t-k,by omega⟩;obtain⟨y,h1,c⟩:=lH hk b l s (by rw[length_cons,succ_mul]at a;omega);refine⟨y,by rw[add_div_right _ b];exact h1,?_⟩;rw[getElem?_append_right (by rw[hk];omega),hk,Nat.add_sub_cancel,add_mod_right];exact c
theorem iN {enc:α->List Value}(hk:∀x,(enc x).length=k):∀l:List α,(l.flatMap enc).length=l.length*k
 |[]=>by simp
 |x::l=>by rw[flatMap_cons,length_append,iN hk l,hk,length_cons,succ_mul];omega
theorem sp [Inhabited α]{enc:α->List Value}(hk:∀x,(enc x).length=k)(c:0<k)(l:List α):flatK enc k l.toArray=(l.flatMap enc).toArray:=by
 have b:=iN hk l;refine ext_get! (by simp[b]) (fun t j=>?_);have a:t<l.length*k:=by simpa using j
 rw[get_flatK _ _ _ t (by simpa using a)];obtain⟨x,h1,d⟩:=lH hk c l t a;have f:t/k<l.length:=(List.getElem?_eq_some_iff.1 h1).1;have g:l.toArray[t/k]! =x:=by
  rw[getElem!_pos _ _ (by simpa using f)];simpa using(List.getElem?_eq_some_iff.1 h1).2
 rw[g,getElem!_pos (l.flatMap enc).toArray t (by simp[b];exact a)];have e:t%k<(enc x).length:=by rw[hk];exact mod_lt _ c
 rw[getElem!_pos (enc x) _ e];have i:t<(l.flatMap enc).length:=by rw[b];exact a
 rw[getElem?_eq_getElem i,getElem?_eq_getElem e]at d;simpa using(Option.some.inj d).symm
end
def Spl.far (w:World)(B g:Nat)(x:Spl):Prop:=x.ws.length<=maxLen/\b8 w B x.at_ (strs x.ws)/\∀a,x.at_=some a->a.block≠g
theorem b8.bj {w w':World}{B g:Nat}{a:Option Addr}(h:b8 w B a xs)(m:B<=w.heap.size)(j:Chg (·=g) w w')(d:∀p,a=some p->p.block≠g):b8 w' B a xs:=fun l=>by
 obtain⟨b,off,e,f,c⟩:=h l;refine⟨b,off,e,f,fun i x k=>?_⟩;have h1:w'.heap[b]?=w.heap[b]?:=j.block b (by omega) (d _ e);exact(show w'.cell? ⟨b,off+i,none⟩=w.cell? ⟨b,off+i,none⟩ by simp[cell?,h1]).trans (c i x k)
def Spl.key (x:Spl):List ByteArray×Int:=(x.ws,x.cost)
abbrev iz (L:List Spl):={x:Spl//x∈L}
theorem EN (L:List Spl):SWO (ltOf (fun x y:iz L=>ka x.1.key y.1.key)) where
 irrefl x:=by unfold ltOf;rw[decide_eq_false_iff_not,nB];exact lJ _
 trans x y z h1 a:=by
  unfold ltOf at *;rw[decide_eq_true_iff,nB]at *;exact lf h1 a
 ntrans x y z h1 a:=by
  unfold ltOf at *;rw[decide_eq_false_iff_not,nB]at *;intro b;rcases qu y.1.key x.1.key with h |h |h
  .exact a (lf h b)
  .rw[h]at a;exact a b
  .exact h1 h
theorem uG {α:Type}{enc:α->List Value}[Inhabited α](w:World)(g m:Nat)(b:Array α)(os:Array Obj):Chg (·=g) w (sortWorldK enc k w g 0 m b os):=by
 unfold sortWorldK putRowK;refine⟨rfl,rfl,rfl,by simp[grow,putRow,mapBlock,Sort.ahead],fun k hk a=>?_⟩;simp only[grow];rw[Array.getElem?_append_left (by simp[putRow,mapBlock,Sort.ahead];exact hk)];simp[putRow,mapBlock,Sort.ahead,Array.getElem?_modify,show g≠k from fun e=>a e.symm]
theorem CQ (L:List Spl)(g size:Nat)(w:World)(a:∀x∈L,x.far w w.heap.size g)[Inhabited (iz L)]:CmpLays prog 34 #[] (fun x:iz L=>x.1.cells) 2 (fun x y=>ka x.1.key y.1.key) g 0 size w:=fun m os f _ x y=>by
 have b:=uG (enc:=fun x:iz L=>x.1.cells) (k:=2) w g m f os;obtain⟨W,r⟩:∃W,sortWorldK (fun x:iz L=>x.1.cells) 2 w g 0 m f os=W:=⟨_,rfl⟩;rw[r]at b⊢;obtain⟨i,j,l⟩:=a x.1 x.2;obtain⟨o,p,q⟩:=a y.1 y.2;refine(En x.1 y.1 w.heap.size W b.size ⟨i,j.bj bW b l⟩ ⟨o,p.bj bW b q⟩).mono ?_;rintro e w' ⟨rfl,c,d,s,n,rfl⟩;refine⟨rfl,n,#[c,d,s],?_⟩;rw[show(W.alloc c).alloc d=grow W #[c,d]from by rw[alloc_eq_grow,alloc_eq_grow,grow_grow];rfl];rw[alloc_eq_grow,grow_grow];rfl
theorem EG (w:World):(isAgg 48).run prog w= .ok true w:=by kernel_rfl
theorem Ek (w:World):(Go.sizeOf 48).run prog w= .ok 2 w:=by kernel_rfl
theorem Aw (L:List Spl)(M:0<L.length)(C:∀x∈L,∀y∈L,x.key=y.key->x=y)(g c base:Nat)(w:World)(A:∀x∈L,x.far w w.heap.size g)(hle:L.length<=1000000000000000)(r:w.ownsRow base 48 2 (.slice (some ⟨g,0,none⟩) L.length c) L.length (L.flatMap Spl.cells)):
  Calls prog 33 #[.slice (some ⟨g,0,none⟩) L.length c,.func (.func 34) #[] #[]] w fun e w'=>
   e= .returned (.tuple #[])/\∃S:List Spl,S.Perm L/\(S.map Spl.key).Pairwise (fun a b=>¬ltX b a)/\w'.ownsRow base 48 2 (.slice (some ⟨g,0,none⟩) L.length c) L.length (S.flatMap Spl.cells)/\Chg (·=g) w w':=by
 haveI:Inhabited (iz L):=⟨⟨L[0],getElem_mem M⟩⟩;have hm:(L.attachWith (·∈L) (fun _ h=>h)).map Subtype.val=L:=by simp
 have p:(L.attachWith (·∈L) (fun _ h=>h)).length=L.length:=by simp
 obtain⟨l,Y⟩:∃l:List (iz L),L.attachWith (·∈L) (fun _ h=>h)=l:=⟨_,rfl⟩;rw[Y]at hm p;have u:∀l:List (iz L),l.flatMap (fun x:iz L=>x.1.cells)=(l.map Subtype.val).flatMap Spl.cells:=fun l=>by rw[flatMap_map]
 have hk:∀x:iz L,x.1.cells.length=2:=fun _=>rfl;have s:=r;obtain⟨I,h1⟩:=r;rcases h1 with ⟨e,_⟩ |⟨g',cap,cur,e,X,B,Z,J,P,ht⟩
 .cases e
 .injection e with d _ U;injection d with d;injection d with d;subst d;subst U;have q:=(s.lt g rfl).2;have hH:HoldsK (fun x:iz L=>x.1.cells) 2 w g 0 l.toArray:=by
   unfold HoldsK;rw[sp hk (by decide),u,hm];intro j f;have G:j<L.length*2:=by simpa [I]using f
   refine⟨?_,by simp[frozen?,B]⟩;have d:(cur.toList.take (L.length*2))[j]?=(L.flatMap Spl.cells)[j]?:=by rw[ht]
   rw[getElem?_take,if_pos G,Array.getElem?_toList]at d;simp only[cell?,B,Nat.zero_add];simp only[Option.isSome_none,Bool.false_eq_true,if_false];rw[d,getElem?_eq_getElem (by simpa using f)];rw[getElem!_pos (L.flatMap Spl.cells).toArray j f];simp
  have N:=AnyQ.slices_SortFunc_total sortSp 2 EG Ek (fun x:iz L=>x.1.cells) hk (fun x v T=>by simp[Spl.cells]at T;rcases T with rfl |rfl<;>rfl) (fun x y=>ka x.1.key y.1.key) (EN L)
   34 #[] g 0 c l.toArray w (enters_of func34 (by kernel_rfl) rfl) (CQ L g _ w A) hH q (by simp;omega) (fun x y h1 m=>by
    unfold ltOf at h1 m;rw[decide_eq_false_iff_not,nB]at h1 m;rcases qu x.1.key y.1.key with h |h |h
    .exact absurd h h1
    .exact Subtype.ext (C _ x.2 _ y.2 h)
    .exact absurd h m)
  have R:l.toArray.size=L.length:=by simpa using p
  rw[R]at N;refine Calls.mono (show Calls prog 33 _ _ _ from N) ?_;rintro e w' ⟨rfl,n,os,hw⟩;obtain⟨S,z⟩:∃S,S=l.mergeSort fun x y=>!(ltOf (fun x y:iz L=>ka x.1.key y.1.key)) y x:=⟨_,rfl⟩;have hp:S.Perm l:=by rw[z];exact mergeSort_perm _ _
  have Q:S.length=L.length:=hp.length_eq.trans p;rw[<-z]at hw;have t:=uG (enc:=fun x:iz L=>x.1.cells) (k:=2) w g n S.toArray os;rw[<-hw]at t;unfold sortWorldK putRowK at hw;rw[sp hk (by decide),u]at hw;have O:=EN L;have i:((S.map Subtype.val).flatMap Spl.cells).length=L.length*2:=by rw[iN (k:=2) (fun _=>rfl),length_map,Q]
  refine⟨rfl,S.map Subtype.val,?_,?_,?_,t⟩
  .have:=hp.map Subtype.val;rwa [hm]at this
  .have h1:S.Pairwise fun a b=>!(ltOf (fun x y:iz L=>ka x.1.key y.1.key)) b a:=by
    rw[z];refine pairwise_mergeSort (fun a b c h1 m=>?_) (fun a b=>?_) l
    .simp only[Bool.not_eq_true']at *;exact O.ntrans c b a m h1
    .cases h:ltOf (fun x y:iz L=>ka x.1.key y.1.key) b a with
     |false=>rfl
     |true=>
      cases V:ltOf (fun x y:iz L=>ka x.1.key y.1.key) a b with
      |false=>rfl
      |true=>
       have:=O.trans _ _ _ h V;rw[O.irrefl]at this;cases this
   rw[map_map,pairwise_map];refine h1.imp (fun {a b} E=>?_);have D:ltOf (fun x y:iz L=>ka x.1.key y.1.key) b a=false:=by simpa using E
   unfold ltOf at D;rwa [decide_eq_false_iff_not,nB]at D
  .subst hw;generalize (S.map Subtype.val).flatMap Spl.cells=F at i⊢;refine⟨i,.inr ⟨g,c,putCells id 0 F.toArray cur,rfl,X,?_,Z,J,by simpa [putCells]using P,?_⟩⟩
   .simp only[grow];rw[Array.getElem?_append_left (by simp[putRow,mapBlock,Sort.ahead];exact q)];simp[putRow,mapBlock,Sort.ahead,Array.getElem?_modify,B,onCells]
   .apply ext_getElem?;intro j;rw[getElem?_take,Array.getElem?_toList];by_cases f:j<L.length*2
    .have H:j<cur.size:=by rw[P];omega
     have o:j<F.length:=by rw[i];exact f
     simp only[if_pos f,putCells,Array.getElem?_mapIdx,Array.getElem?_eq_getElem H,Option.map_some];rw[if_pos (by simp;exact o),getElem?_eq_getElem o];simp[getElem!_pos,o]
    .rw[if_neg f,getElem?_eq_none (by rw[i];omega)]
end
section
open Go.RowKit Go.Shelf Classical
attribute [local go_sem] Oper.semAt_some
section
variable {S : Nat → Prop} {w X Y : World}
theorem Chg.aH {row:Option Nat}(h:Chg S w X)(a:X.grownBy Y row)(c:∀r,row=some r->w.heap.size<=r):Chg S w Y:=
 ⟨a.os.trans h.os,a.tape.trans h.tape,a.output.trans h.output,Nat.le_trans h.size a.size,fun k hk b=>(a.block k (Nat.lt_of_lt_of_le hk h.size) (fun e=>by have:=c k e.symm;omega)).trans (h.block k hk b)⟩
theorem Chg.bh {B:Nat}(h:Chg S w X)(a:Below B X Y)(c:w.heap.size<=B):Chg S w Y:=
 ⟨a.os.trans h.os,a.tape.trans h.tape,a.output.trans h.output,Nat.le_trans h.size a.size,fun k hk b=>(a.block k (by omega)).trans (h.block k hk b)⟩
theorem Chg.bw (h:Chg S w X)(a:S b)(i:Nat)(u:Value):Chg S w (X.setCell ⟨b,i,none⟩ u):=h.trans (Chg.setCell X (.inl a) u)
end
theorem fP:(prog.info? 9).map (fun i=>(i.zero,i.size,i.bytes))=some (some (.string ByteArray.empty),1,16):=by kernel_rfl
theorem sI {w w':World}{base:Nat}{e:TypeId}{size n:Nat}{v:Value}(h:w.ownsRow base e size v n xs){S:Nat->Prop}(b:Chg S w w')(a:∀k,S k->k<base):w'.ownsRow base e size v n xs:=
 fj h b (fun g c d=>by have:=a g d;have:=(h.lt g c).1;omega)
def Fi (w:World)(Bt:Nat)(pre:List ByteArray)(W:World):Prop:=
 (∃v,Boxed W w.heap.size 29 v/\W.ownsRow w.heap.size 9 1 v pre.length (strs pre)/\True)/\Chg (fun k=>k=Bt) w W
def vt (Bt:Nat)(s:ByteArray)(w:World)(e:Ending)(w':World):Prop:=
 ∃(v:Value) (a:List ByteArray),e= .returned v/\a.map bl=cA (bl s)/\w'.ownsRow w.heap.size 9 1 v a.length (strs a)/\Chg (fun k=>k=Bt) w w'
set_option maxRecDepth 100000
set_option maxHeartbeats 4000000
theorem uV (Bt:Nat)(s:ByteArray)(hs:s.size<=1000000000)(w:World)(H:Blk w Bt #[.string s] 9):
  Calls prog 87 #[.slice none 0 0,.func (.func 52) #[] #[.pointer (some ⟨Bt,0,none⟩)]] w (vt Bt s w):=by
 obtain⟨i0,hi,R,T,U⟩:=info_parts fP;refine(callsIn_wide (n:=5)).1 ?_;refine callsIn_of_wp_marks func87 rfl trivial ?_ rfl;simp only[ntmps87,size_toArray,length_cons,length_nil,Nat.reduceAdd,Nat.reduceSub,Array.replicate_succ,Array.replicate_zero,push_toArray,append_toArray,nil_append,cons_append];gi_wp2;have p:=H.lt;have hlen:(cA (bl s)).length<=1000000000:=Nat.le_trans (qV _) (by rw[b9];exact hs);have f:Below w.heap.size w (w.alloc (.cells #[.slice none 0 0] 29)):=bX.alloc bW _;have E:=H.below f p;obtain⟨o,d⟩:∃o,w.heap.size=o:=⟨_,rfl⟩;have g0:Boxed (w.alloc (.cells #[.slice none 0 0] 29)) o 29 (.slice none 0 0):=by rw[<-d];exact Boxed.new _ _ _
 obtain⟨m,q⟩:∃m:World,m=w.alloc (.cells #[.slice none 0 0] 29):=⟨_,rfl⟩;have ag:m.heap.size=o+1:=by rw[q,<-d];simp
 rw[<-q]at f E g0⊢;rw[d]at f p⊢;clear q;refine mB (α:=ByteArray) (encs:=fun x=> #[.string x]) (Kp:=vm Bt) (Tn:=zl Bt) (S:=fun C=>C.map bl=cA (bl s)) (Sp:=fun pre=>pre.map bl<+:cA (bl s)) (G:=fun pre x=>(pre++[x]).map bl<+:cA (bl s)) (w0:=m)
  rfl (by omega) (gf:=52) (lb:= #[.pointer (some ⟨Bt,0,none⟩)]) rfl trivial (enters_of func52 (by kernel_rfl) rfl)
  (uw _ (by omega) Bt s (by unfold maxLen;omega) m E) (fun h k=>k.trans h) ?kb bX (fun _=>rfl) ?tl (Fi w Bt) (fun _ _ _=>False) ?hI (fun _ _ _ _ _ h _ _=>h) ?hT (fun _ _ _ _ h _=>h) ?h0
  (fun x=>{ tmps:= #[.slice none 0 0,.func (.func 52) #[] #[.pointer (some ⟨Bt,0,none⟩)],.pointer (some ⟨o,0,none⟩),undef,.slice none 0 0,.string x,.func (.func 52) #[] #[.pointer (some ⟨Bt,0,none⟩)],.string x,undef,undef,undef,undef,undef],defers:=[] }) ?assign ?body ?done ?stop
 case kb=>
  intro W l ob ao hl _ _;exact putObj_heap_other (by omega)
 case tl=>
  rintro X Y l ob ⟨v,rfl⟩ hl hx _;exact(Below.heap_setCell X ⟨Bt,0,none⟩ _ l (by show l≠Bt;omega)).trans hx
 case hI=>
  rintro pre X Y row ⟨h1,A⟩ J N;exact⟨holdsRow_own w.heap.size w.heap.size 29 9 1 (fun pre:List ByteArray=>pre.length) (fun pre=>strs pre) (fun _ _=>True) pre X Y row h1 J (fun r e=>(N r e).2),A.aH J (fun r e=>by have:=(N r e).1;omega)⟩
 case hT=>
  rintro pre X Y ⟨⟨v,h1,A,_⟩,Z⟩ ⟨u,rfl⟩;exact⟨⟨v,h1.other (by omega) _,cV A (fun e=>by have:=(A.lt _ e).1;show False;simp at this;omega) _,trivial⟩,Z.bw rfl 0 _⟩
 case h0=>exact⟨⟨_,by rw[d];exact g0,ownsRow_nil _ _ _ _,trivial⟩,Chg.ai _ (by rw[d];exact f)⟩
 case assign=>
  intro l x W K hK;gi_wp2;exact hK
 case body=>
  rintro l pre x W ⟨⟨v,j,b,_⟩,g⟩ M;have an:pre.length<(cA (bl s)).length:=by have:=M.length_le;simp at this;omega
  rw[d]at j b;have I:=j.cell;have P:o<=W.heap.size:=by have:=g.size;omega
  obtain⟨a,c,rfl,y,z⟩:=b8.ah b;clear z y;gi_wp2_with (gi_at_builtin;refine wpListIn_append_own _ rfl _ _ 29 rfl o 9 i0 (.string ByteArray.empty) 1 16 underlying29 hi R T U rfl (by decide) _ _ _ rfl (b.alloc _) ⟨W.heap.size,0,none⟩ 1 1 [.string x] rfl rfl (cell_one_new _ _ _) (by simp[Value.oneCell']) (by unfold maxLen;omega) (by omega) (by simp;omega) ?_;intro v' w1 i B _;obtain⟨g',V,rfl⟩:=ownsRow_succ i;obtain⟨F,Q,O,L,t⟩:=j.appended (by decide) b P bW i B;have ak:=F.cell;have al:=F.frozen);refine⟨L.from _,.inl ⟨rfl,t.block Bt p,⟨_,by rw[d];exact Q,?_,trivial⟩,g.bh t (by omega)⟩⟩;have e:strs (pre++[x])=strs pre++[.string x]:=by simp[strs]
  rw[d,e];simpa using O
 case done=>
  rintro D C W hD hS ⟨⟨v,j,b,_⟩,g⟩ hK;rw[d]at j;have I:=j.cell;obtain⟨a,c,rfl,y,z⟩:=b8.ah b;clear z y;gi_wp2;refine jc (v:= .slice a C.length c) hK ?_ rfl ?_
  .simp[results,results87,go_sem]
  .exact⟨_,C,rfl,hS,ownsRow_putObj b _ hK rfl,g.aH (grownBy_putObj' W D _) (fun r e=>by cases e;omega)⟩
 case stop=>
  rintro D pre W hD _ h _;exact h.elim
theorem xZ (Bt:Nat)(s:ByteArray)(f:s.size<=1000000000)(w:World)(a:Blk w Bt #[.string s] 9):
  Calls prog 49 #[.func (.func 52) #[] #[.pointer (some ⟨Bt,0,none⟩)]] w (vt Bt s w):=by
 have b:=bP (uV Bt s f w a);clear a;go_enter func49,ntmps49;go_wp2_with (go_at_call 87;refine b.out.mono ?_;rintro e i ⟨v,g,rfl,h1,c,d⟩);go_ret;exact⟨v,g,rfl,h1,c,d⟩
def tQ (s:ByteArray)(w:World)(e:Ending)(w':World):Prop:=
 ∃(v:Value) (a:List ByteArray),e= .returned v/\a.map bl=cA (bl s)/\w'.ownsRow w.heap.size 9 1 v a.length (strs a)/\Below w.heap.size w w'
theorem tR (s:ByteArray)(g:s.size<=1000000000)(w:World):
  Calls prog 14 #[.string s] w (tQ s w):=by
 have b:Blk (w.alloc (.cells #[.string s] 9)) w.heap.size #[.string s] 9:=Blk.new _ _ _;have d:=bP (xZ _ s g _ b);clear b;go_enter func14,ntmps14;go_wp2_with (first |(go_at_call 22;refine(uv s w).mono ?_;rintro e c ⟨rfl,hw⟩;subst c) |(go_at_call 49;refine d.out.mono ?_;rintro e c ⟨v,i,rfl,h1,f,a⟩));go_ret;refine⟨v,i,rfl,h1,cP f (by simp),?_⟩;exact⟨a.os,a.tape,a.output,Nat.le_trans (by simp) a.size,fun k hk=>(a.block k (by simp;omega) (by omega)).trans (((Below.refl _ w).alloc bW _).block k hk)⟩
end
section
open Go.RowKit Go.Shelf Classical
theorem Bp:(prog.info? 48).map (fun i=>(i.zero,i.size,i.bytes))=some (some (.agg #[.slice none 0 0,.int .i64 0]),2,32):=by kernel_rfl
def jw (B:Nat)(w:World)(k:Nat):Prop:=B<=k/\∃cur,w.heap[k]?=some (.cells cur 48 (0,0))
theorem jw.own {w:World}{base n:Nat}{v:Value}(h:w.ownsRow base 48 2 v n xs)(hk:v.ownBlock=some k):jw base w k:=by
 rcases h.2 with ⟨rfl, -⟩ |⟨g,cap,cur,rfl,a,b, -⟩
 .cases hk
 .have:g=k:=by simpa [Value.ownBlock]using hk
  subst this;exact⟨a,cur,b⟩
theorem jw.not_row {w:World}{base n:Nat}{v:Value}(h:w.ownsRow base 9 1 v n xs)(hk:v.ownBlock=some k)(B:Nat):¬jw B w k:=by
 rintro⟨-,b,a⟩;rcases h.2 with ⟨rfl, -⟩ |⟨g,cap,cur,rfl, -,c, -⟩
 .cases hk
 .have:g=k:=by simpa [Value.ownBlock]using hk
  subst this;rw[c]at a;cases a
def rX (w0 w:World)(new:List Spl):Prop:=∀x∈new,x.ws.length<=maxLen/\w.ownsRow w0.heap.size 9 1 (.slice x.at_ x.ws.length x.cap) x.ws.length (strs x.ws)
def AO (b:World)(ob:Nat)(v:Value)(ws:List ByteArray)(_:Value)(L:List Spl)(K:List (List ByteArray×Int))(wr:World)(e:Ending)(w':World):Prop:=
 e= .returned (.tuple #[])/\∃a new,Boxed w' ob 36 a/\w'.ownsRow b.heap.size 48 2 a (L++new).length ((L++new).flatMap Spl.cells)/\
  w'.ownsRow b.heap.size 9 1 v ws.length (strs ws)/\new.map Spl.key=K/\rX wr w' new/\Chg (fun k=>k=ob\/some k=v.ownBlock\/jw b.heap.size wr k) wr w'
theorem Chg.au {S:Nat->Prop}{w X Y:World}{row:Option Nat}(h:Chg S w X)(a:X.grownBy Y row)(c:∀r,row=some r->S r):Chg S w Y:=
 ⟨a.os.trans h.os,a.tape.trans h.tape,a.output.trans h.output,Nat.le_trans h.size a.size,fun k hk b=>(a.block k (Nat.lt_of_lt_of_le hk h.size) (fun e=>b (c k e.symm))).trans (h.block k hk b)⟩
theorem tF {b wr j l:World}{ob:Nat}{v:Value}{ws:List ByteArray}{i:Value}{L:List Spl}{cost:Int}{c:Option Addr}{d g cap:Nat}(D:ws.length<=maxLen)(y:ob<b.heap.size)(o:Chg (·=ob) b wr)(k:Below wr.heap.size wr j)
  (q:Boxed wr ob 36 i)(C:wr.ownsRow b.heap.size 9 1 v ws.length (strs ws))(z:wr.ownsRow b.heap.size 48 2 i L.length (L.flatMap Spl.cells))(f:j.ownsRow b.heap.size 48 2 i L.length (L.flatMap Spl.cells))
  (w:j.ownsRow wr.heap.size 9 1 (.slice c ws.length d) ws.length (strs ws))
  (m:l.ownsRow b.heap.size 48 2 (.slice (some ⟨g,0,none⟩) (L.length+1) cap) (L.length+1) (L.flatMap Spl.cells++[.slice c ws.length d,.int .i64 cost]))
  (a:(j.alloc (.cells #[.slice c ws.length d,.int .i64 cost] 48)).grownBy l i.ownBlock):
  AO b ob v ws i L [(ws,cost)] wr (.returned (.tuple #[])) (l.setCell ⟨ob,0,none⟩ (.slice (some ⟨g,0,none⟩) (L.length+1) cap)):=by
 have p:ob<wr.heap.size:=Nat.lt_of_lt_of_le y o.size;have E:Blk j ob #[i] 36:=(k.block ob p).trans q;have F:=(E.alloc (.cells #[.slice c ws.length d,.int .i64 cost] 48)).grown a (fun e=>Blk.own_ne E f (by decide) e.symm);have A:j.ownsRow b.heap.size 9 1 v ws.length (strs ws):=sI C (Chg.ai (fun _=>False) k) (fun _ h=>h.elim);have B:=dK (A.alloc (.cells #[.slice c ws.length d,.int .i64 cost] 48)) (f.alloc (.cells #[.slice c ws.length d,.int .i64 cost] 48)) (by decide) a;have s:=dK (w.alloc (.cells #[.slice c ws.length d,.int .i64 cost] 48)) (f.alloc (.cells #[.slice c ws.length d,.int .i64 cost] 48)) (by decide) a;have far:∀{base:Nat} {e:TypeId} {size n:Nat} {u:Value} {xs:List Value},b.heap.size<=base->l.ownsRow base e size u n xs->(l.setCell ⟨ob,0,none⟩ (.slice (some ⟨g,0,none⟩) (L.length+1) cap)).ownsRow base e size u n xs:=fun H h=>
  cV h (fun e=>by have:=(h.lt _ e).1;show False;simp at this;omega) _
 have t:=far o.size s;refine⟨rfl,_,[⟨c,d,ws,cost⟩],F.aj 0 _,?_,far bW B,rfl,?_,?_⟩
 .have:=far bW m;rw[length_append,flatMap_append];exact this
 .intro x G;obtain rfl:=mem_singleton.1 G;exact⟨D,t⟩
 .exact((((Chg.ai _ k).trans (Chg.ai _ (bX.alloc bW _))).au a (fun r e=> .inr (.inr (jw.own z e)))).bw (.inl rfl) 0 _)
theorem pG {α β:Type}{f:α->List β}{m:Nat}(h:∀x,(f x).length=m):∀l:List α,(l.flatMap f).length=l.length*m
 |[]=>by simp
 |x::l=>by rw[flatMap_cons,length_append,pG h l,h,length_cons,succ_mul];omega
theorem B0 {L new:List Spl}{C:List (ByteArray×Int)}{Ds:List (List (ByteArray×Int))}{ws:List ByteArray}{cost:Int}{j:Nat}(c:j<C.length)(h:new.map Spl.key=(C.take j).flatMap (fun p=>ep Ds (ws++[p.1]) (cost+p.2)))(b:L.length+cW (C::Ds)<=64):(L++new).length+cW Ds<=64:=by
 have h1:=congrArg length h;rw[length_map,pG (m:=cW Ds) (fun p=>jq _ _ _),length_take,Nat.min_eq_left (by omega)]at h1;rw[lK]at b;have a:(j+1)*cW Ds<=C.length*cW Ds:=mul_le_mul_right _ c;rw[succ_mul]at a;rw[length_append];omega
theorem Dx {c wp wr l s:World}{ob n:Nat}{v v':Value}{o:Obj}{u:Value}{new A:List Spl}(T:ob<c.heap.size)(E:Chg (·=ob) c wp)(I:wp.ownsRow c.heap.size 9 1 v n xs)
  (a:Chg (fun k=>k=ob\/some k=v.ownBlock\/jw c.heap.size wp k) wp wr)(p:wr.ownsRow c.heap.size 9 1 v n xs)(H:rX wp wr new)
  (f:(∃g cap,v= .slice (some ⟨g,0,none⟩) n cap/\v'= .slice (some ⟨g,0,none⟩) (n+1) cap/\(wr.alloc o).drew.grownBy l (some g))\/((∀g,v'.ownBlock=some g->(wr.alloc o).drew.heap.size<=g)/\(wr.alloc o).drew.grownBy l none))
  (k3:s.ownsRow c.heap.size 9 1 v' (n+1) (xs++[u]))(S:rX l s A)(m:Chg (fun k=>k=ob\/some k=v'.ownBlock\/jw c.heap.size l k) l s):
  s.ownsRow c.heap.size 9 1 v n xs/\rX wp s (new++A)/\Chg (fun k=>k=ob\/some k=v.ownBlock\/jw c.heap.size wp k) wp s:=by
 have i:Below wr.heap.size wr (wr.alloc o).drew:=(bX.alloc bW _).drew;have D:∀g,v.ownBlock=some g->g<wp.heap.size:=fun g d=>(I.lt g d).2;have b:Chg (fun k=>some k=v.ownBlock) wr l:=by
  rcases f with ⟨g,cap,rfl, -,d⟩ |⟨-,d⟩
  .exact(Chg.ai _ i).au d (fun r e=>by cases e;rfl)
  .exact(Chg.ai _ i).au d (fun r e=>by cases e)
 have y:∀g,v'.ownBlock=some g->v.ownBlock=some g\/wr.heap.size<=g:=by
  intro g d;rcases f with ⟨g2,cap,rfl,rfl, -⟩ |⟨h1, -⟩
  .exact .inl d
  .exact .inr (Nat.le_trans i.size (h1 g d))
 refine⟨?_,?_,?_⟩
 .rcases f with ⟨g,cap,rfl,rfl, -⟩ |⟨h1,d⟩
  .obtain⟨U,h |⟨g2,L,cur,e,Q,R,M,N,O,P⟩⟩:=k3
   .cases h.1
   .cases e
    have J:=p.1;refine⟨J,.inr ⟨_,_,cur,rfl,Q,R,by omega,N,O,?_⟩⟩;have G:=congrArg (take (n*1)) P;rw[take_take,Nat.min_eq_left (by omega),take_append_of_le_length (by omega)]at G;rw[G,take_of_length_le (by omega)]
  .have C:l.ownsRow c.heap.size 9 1 v n xs:=fj p ((Chg.ai (fun _=>False) i).au d (fun r e=>by cases e)) (fun _ _ h=>h);refine fj C m (fun q j w=>?_);rcases w with e |e |e
   .have:=(p.lt q j).1;omega
   .have M:=h1 q e.symm;have:=(p.lt q j).2;have:=i.size;omega
   .exact jw.not_row C j _ e
 .intro x z;rcases mem_append.1 z with z |z
  .obtain⟨y1,y2⟩:=H x z;have z2:=fj y2 b (fun q j w=>by have:=(y2.lt q j).1;have:=D q w.symm;omega);refine⟨y1,fj z2 m (fun q j w=>?_)⟩;have q1:=y2.lt q j;rcases w with e |e |e
   .have:=E.size;omega
   .rcases y q e.symm with e |e
    .have:=D q e;omega
    .omega
   .exact jw.not_row z2 j _ e
  .obtain⟨y1,y2⟩:=S x z;exact⟨y1,cP y2 (Nat.le_trans a.size b.size)⟩
 .refine⟨m.os.trans (b.os.trans a.os),m.tape.trans (b.tape.trans a.tape),m.output.trans (b.output.trans a.output),Nat.le_trans a.size (Nat.le_trans b.size m.size),fun k hk t=>?_⟩;have B:k<wr.heap.size:=Nat.lt_of_lt_of_le hk a.size;have F:l.heap[k]?=wp.heap[k]?:=(b.block k B (fun e=>t (.inr (.inl e)))).trans (a.block k hk t);refine(m.block k (Nat.lt_of_lt_of_le B b.size) ?_).trans F;rintro(e |e |⟨e,cur,h⟩)
  .exact t (.inl e)
  .rcases y k e.symm with e |e
   .exact t (.inr (.inl e.symm))
   .omega
  .exact t (.inr (.inr ⟨e,cur,F▸h⟩))
set_option maxRecDepth 100000
set_option maxHeartbeats 4000000
theorem Em (d:World)(pw ob pc pr pk:Nat)(W:List ByteArray)(cy:1<=W.length)(hW:W.length<=12)(Cs:List (List (ByteArray×Int)))(cx:Cs.length=W.length)(ad:ob<d.heap.size)
  (wa:Option Addr)(wc cm km:Nat)(RA:Nat->Option Addr)(RC:Nat->Nat)(HX:∀wr,Chg (·=ob) d wr->wr.cell? ⟨pw,0,none⟩=some (.slice wa W.length wc)/\b8 wr wr.heap.size wa (strs W)/\wr.cell? ⟨pc,0,none⟩=some (.map (some cm))/\wr.cell? ⟨pk,0,none⟩=some (.map (some km))/\
   wr.cell? ⟨pr,0,none⟩=some (.func (.func 31) #[] #[.pointer (some ⟨pw,0,none⟩),.pointer (some ⟨ob,0,none⟩),.pointer (some ⟨pc,0,none⟩),.pointer (some ⟨pr,0,none⟩),.pointer (some ⟨pk,0,none⟩)])/\
   (∀(k:Nat) (w:ByteArray) (C:List (ByteArray×Int)),W[k]?=some w->Cs[k]?=some C->b8 wr wr.heap.size (RA k) (strs (C.map (·.1)))/\(Instr.lookup 65 (.map (some cm)) (.string w) false).run prog wr= .ok (.slice (RA k) C.length (RC k)) wr/\
    ∀p∈C,(Instr.lookup 61 (.map (some km)) (.agg #[.string w,.string p.1]) false).run prog wr= .ok (.int .i64 p.2) wr))
  (aU:∀C∈Cs,∀p∈C,0<=p.2/\p.2<=1000)(bj:∀C∈Cs,1<=C.length/\C.length<=64):
  ∀(k:Nat) (ws:List ByteArray) (cost:Int) (v:Value) (L:List Spl) (ov:Value) (wr:World),ws.length+k=W.length->0<=cost->cost<=1000*ws.length->L.length+cW (Cs.drop ws.length)<=64->Chg (·=ob) d wr->
   Boxed wr ob 36 ov->wr.ownsRow d.heap.size 48 2 ov L.length (L.flatMap Spl.cells)->wr.ownsRow d.heap.size 9 1 v ws.length (strs ws)->
   Calls prog 31 #[v,.int .i64 cost,.pointer (some ⟨pw,0,none⟩),.pointer (some ⟨ob,0,none⟩),.pointer (some ⟨pc,0,none⟩),.pointer (some ⟨pr,0,none⟩),.pointer (some ⟨pk,0,none⟩)] wr (AO d ob v ws ov L (ep (Cs.drop ws.length) ws cost) wr):=by
 have m:=bP HX;clear HX;obtain⟨ii,aF,al,an,ao⟩:=info_parts Bp;obtain⟨i0,hi,bK,bL,bM⟩:=info_parts fP;intro k;induction k with
 |zero=>
  intro ws cost v L ov wr hk bD bE hL c E J u;have hlen:ws.length=W.length:=by omega
  obtain⟨x0, -, -, -, -, -⟩:=m.out wr c;obtain⟨va,vc,rfl,bd,aN⟩:=b8.ah u;have hex:ep (Cs.drop ws.length) ws cost=[(ws,cost)]:=by rw[drop_of_length_le (by omega)];rfl
  rw[hex];have d1:((ws.length:Int)==(W.length:Int))=true:=by simp[hlen]
  have T:=bP hlen;have ck:1<=ws.length:=by omega
  clear hlen hk;go_enter func31,ntmps31;go_upto_region 1 with (fail);clear x0;have bm:∃g,va=some ⟨g,0,none⟩/\ws.length<=vc:=by
   rcases u.2 with ⟨-,h0⟩ |⟨g,cap,cur,e, -, -,h1, -⟩
   .omega
   .cases e;exact⟨g,rfl,h1⟩
  obtain⟨vg,rfl,cB⟩:=bm;have cC:=(u.lt vg rfl).2;obtain⟨y,z,rfl,cA,cz⟩:=b8.ah J;have aV:=bP (fun(q:Nat)=>slices_Clone_string vg 0 ws.length vc ws (wr.drewN q) bW (by have:=T.out;omega) (fun j hj=>by
   obtain⟨U,o2,e2, -,hc⟩:=aN (by simp[strs];omega);cases e2
   exact hc j _ (by simp[strs,hj])))
  have aJ:ob<wr.heap.size:=Nat.lt_of_lt_of_le ad c.size;have az:wr.cell? ⟨ob,0,none⟩=some _:=E.cell;have aA:=E.frozen;refine wp_region_held_drew (S:=fun _=>True) (by kernel_rfl) trivial (fun aT=>?_);refine wpAnyH_take (i:=1) (v:=?_) rfl (by kernel_rfl) (by kernel_rfl) (by kernel_rfl) (fun _ _ _ h=>h) (Or.inl ⟨by rfl,?_⟩) (by assumption) ?_;rotate_left
  .intro w' a;go_simp<;>with_reducible rfl
  try simp only[Act.put,setIfInBounds_toArray]
  refine wpAnyH_take (i:=3) (v:=?_) rfl (by kernel_rfl) (by kernel_rfl) (by kernel_rfl) (fun _ _ _ h=>h) (Or.inl ⟨by rfl,?_⟩) (by assumption) ?_;rotate_left
  .intro w' a;go_simp<;>with_reducible rfl
  try simp only[Act.put]
  refine rd2 0 2 (fun K hK=>?_) (fun K hK=>?_)
  .go_simp;refine hK.out _ _ trivial (fun _=>?_);clear hK K;try simp only[pS]
   refine rd1 2 (fun K hK=>?_);go_simp;go_at_call 32;refine(aV.out 1).mono ?_;rintro e l ⟨cv,rfl,I,bG,F⟩;rw[take_length]at I;obtain⟨M,N,rfl,bF,Q⟩:=b8.ah I;go_simp;refine hK.out _ _ trivial (fun _=>?_);clear hK K;have G:Boxed l ob 36 (.slice y L.length z):=(F.block ob (by simpa using aJ)).trans E;have n:l.ownsRow d.heap.size 48 2 (.slice y L.length z) L.length (L.flatMap Spl.cells):=sI J (Chg.ai (fun _=>False) ((Go.below_drewN (Below.refl _ wr) 1).trans F)) (fun _ h=>h.elim);have H:Below wr.heap.size wr l:=(Go.below_drewN (Below.refl _ wr) 1).trans F;have bN:d.heap.size<=l.heap.size:=Nat.le_trans c.size H.size;clear F;try simp only[pS]
   refine wpAnyH_take (i:=4) (v:=?_) rfl (by kernel_rfl) (by kernel_rfl) (by kernel_rfl) (fun _ _ _ h=>h) (Or.inl ⟨by rfl,?_⟩) (by assumption) ?_;rotate_left
   .intro w' a;go_simp<;>with_reducible rfl
   try simp only[Act.put]
   refine rd1 5 (fun K hK=>?_);go_simp;refine hK.out _ _ trivial (fun _=>?_);clear hK K;try simp only[pS]
   refine rd1 6 (fun K hK=>?_);refine step_append_lies _ (by rfl) _ _ _ (by rfl) d.heap.size 48 ii (.agg #[.slice none 0 0,.int .i64 0]) 2 32 underlying36 aF al an ao rfl (by decide) (.slice y L.length z) L.length (L.flatMap Spl.cells) (by rfl) (n.alloc _) ⟨l.heap.size,0,none⟩ 1 1 [.slice M ws.length N,.int .i64 cost] (by rfl) rfl (by exact dQ _ _ _) (by simp[Value.oneCell']) (by decide) (by unfold maxLen;omega) (by omega) (by simp;omega) _ rfl ?_;intro g cap w2 f b aX a8;have P:Blk l ob #[.slice y L.length z] 36:=G;have U:=(show Blk (l.alloc (.cells #[.slice M ws.length N,.int .i64 cost] 48)) ob #[.slice y L.length z] 36 from P.alloc _).grown b (fun e=>Blk.own_ne (show Blk (l.alloc (.cells #[.slice M ws.length N,.int .i64 cost] 48)) ob #[.slice y L.length z] 36 from P.alloc _) (n.alloc _) (by decide) e.symm);have q2:=U.cell 0;have qf:=U.frozen 0;simp only[getElem?_toArray,getElem?_cons_zero]at q2;refine hK.out _ _ trivial (fun _=>?_);clear hK K;try simp only[Act.put,setIfInBounds_toArray]
   refine rd1 7 (fun K hK=>?_);go_simp;refine hK.out _ _ trivial (fun _=>?_);clear hK K;try simp only[pS]
   refine wpAnyH_done (by kernel_rfl) ?_ _;clear d1 az aA q2 qf;go_wp2_with fail;refine bodyPost_ret (results_none rfl _ _ _) rfl ?_;exact tF (by unfold maxLen;have:=T.out;omega) ad c H E u J n I f b
  .go_simp;go_at_call 32;refine(aV.out 1).mono ?_;rintro e l ⟨cv,rfl,I,bG,F⟩;rw[take_length]at I;obtain⟨M,N,rfl,bF,Q⟩:=b8.ah I;go_simp;refine hK.out _ _ trivial (fun _=>?_);clear hK K;have G:Boxed l ob 36 (.slice y L.length z):=(F.block ob (by simpa using aJ)).trans E;have n:l.ownsRow d.heap.size 48 2 (.slice y L.length z) L.length (L.flatMap Spl.cells):=sI J (Chg.ai (fun _=>False) ((Go.below_drewN (Below.refl _ wr) 1).trans F)) (fun _ h=>h.elim);have H:Below wr.heap.size wr l:=(Go.below_drewN (Below.refl _ wr) 1).trans F;have bN:d.heap.size<=l.heap.size:=Nat.le_trans c.size H.size;clear F;have cr:l.cell? ⟨ob,0,none⟩=some _:=G.cell;have cu:(l.alloc (.cells #[.slice M ws.length N,.int .i64 cost] 48)).cell? ⟨ob,0,none⟩=some _:=((show Blk l ob #[.slice y L.length z] 36 from G).alloc _).cell 0;try simp only[pS]
   refine wpAnyH_take (i:=4) (v:=?_) rfl (by kernel_rfl) (by kernel_rfl) (by kernel_rfl) (fun _ _ _ h=>h) (Or.inl ⟨by rfl,?_⟩) (by assumption) ?_;rotate_left
   .intro w' a;go_simp<;>with_reducible rfl
   try simp only[Act.put]
   refine rd2 0 5 (fun K hK=>?_) (fun K hK=>?_)
   .go_simp;refine hK.out _ _ trivial (fun _=>?_);clear hK K;try simp only[pS]
    refine rd1 5 (fun K hK=>?_);go_simp;refine hK.out _ _ trivial (fun _=>?_);clear hK K;try simp only[pS]
    refine rd1 6 (fun K hK=>?_);refine step_append_lies _ (by rfl) _ _ _ (by rfl) d.heap.size 48 ii (.agg #[.slice none 0 0,.int .i64 0]) 2 32 underlying36 aF al an ao rfl (by decide) (.slice y L.length z) L.length (L.flatMap Spl.cells) (by rfl) (n.alloc _) ⟨l.heap.size,0,none⟩ 1 1 [.slice M ws.length N,.int .i64 cost] (by rfl) rfl (by exact dQ _ _ _) (by simp[Value.oneCell']) (by decide) (by unfold maxLen;omega) (by omega) (by simp;omega) _ rfl ?_;intro g cap w2 f b aX a8;have P:Blk l ob #[.slice y L.length z] 36:=G;have U:=(show Blk (l.alloc (.cells #[.slice M ws.length N,.int .i64 cost] 48)) ob #[.slice y L.length z] 36 from P.alloc _).grown b (fun e=>Blk.own_ne (show Blk (l.alloc (.cells #[.slice M ws.length N,.int .i64 cost] 48)) ob #[.slice y L.length z] 36 from P.alloc _) (n.alloc _) (by decide) e.symm);have q2:=U.cell 0;have qf:=U.frozen 0;simp only[getElem?_toArray,getElem?_cons_zero]at q2;refine hK.out _ _ trivial (fun _=>?_);clear hK K;try simp only[Act.put,setIfInBounds_toArray]
    refine rd1 7 (fun K hK=>?_);go_simp;refine hK.out _ _ trivial (fun _=>?_);clear hK K;try simp only[pS]
    refine wpAnyH_done (by kernel_rfl) ?_ _;clear d1 az aA q2 qf;go_wp2_with fail;refine bodyPost_ret (results_none rfl _ _ _) rfl ?_;exact tF (by unfold maxLen;have:=T.out;omega) ad c H E u J n I f b
   .go_simp;refine hK.out _ _ trivial (fun _=>?_);clear hK K;try simp only[pS]
    refine rd1 0 (fun K hK=>?_);go_simp;refine hK.out _ _ trivial (fun _=>?_);clear hK K;try simp only[pS]
    refine rd1 6 (fun K hK=>?_);refine step_append_lies _ (by rfl) _ _ _ (by rfl) d.heap.size 48 ii (.agg #[.slice none 0 0,.int .i64 0]) 2 32 underlying36 aF al an ao rfl (by decide) (.slice y L.length z) L.length (L.flatMap Spl.cells) (by rfl) (n.alloc _) ⟨l.heap.size,0,none⟩ 1 1 [.slice M ws.length N,.int .i64 cost] (by rfl) rfl (by exact dQ _ _ _) (by simp[Value.oneCell']) (by decide) (by unfold maxLen;omega) (by omega) (by simp;omega) _ rfl ?_;intro g cap w2 f b aX a8;have P:Blk l ob #[.slice y L.length z] 36:=G;have U:=(show Blk (l.alloc (.cells #[.slice M ws.length N,.int .i64 cost] 48)) ob #[.slice y L.length z] 36 from P.alloc _).grown b (fun e=>Blk.own_ne (show Blk (l.alloc (.cells #[.slice M ws.length N,.int .i64 cost] 48)) ob #[.slice y L.length z] 36 from P.alloc _) (n.alloc _) (by decide) e.symm);have q2:=U.cell 0;have qf:=U.frozen 0;simp only[getElem?_toArray,getElem?_cons_zero]at q2;refine hK.out _ _ trivial (fun _=>?_);clear hK K;try simp only[Act.put,setIfInBounds_toArray]
    refine rd1 7 (fun K hK=>?_);go_simp;refine hK.out _ _ trivial (fun _=>?_);clear hK K;try simp only[pS]
    refine wpAnyH_done (by kernel_rfl) ?_ _;clear d1 az aA q2 qf;go_wp2_with fail;refine bodyPost_ret (results_none rfl _ _ _) rfl ?_;exact tF (by unfold maxLen;have:=T.out;omega) ad c H E u J n I f b
 |succ k ih=>
  intro ws cost v L ov wp hk bD bE hL c E J u;have ba:ws.length<W.length:=by omega
  obtain⟨w,hw⟩:∃w,W[ws.length]?=some w:=⟨_,getElem?_eq_getElem ba⟩;obtain⟨C,hC⟩:∃C,Cs[ws.length]?=some C:=⟨_,getElem?_eq_getElem (by omega)⟩;obtain⟨x0,bJ,x1,x2,x3,a7⟩:=m.out wp c;obtain⟨cw,cj,bh⟩:=a7 _ w C hw hC;obtain⟨wg,wo,rfl,cD,be⟩:=bJ.strs (by omega);have y0:=be ws.length ba;rw[show W[ws.length]=w from(List.getElem?_eq_some_iff.1 hw).2]at y0;have X:Cs.drop ws.length=C::Cs.drop (ws.length+1):=by
   rw[drop_eq_getElem_cons (by omega)];rw[(List.getElem?_eq_some_iff.1 hC).2]
  have hex:ep (Cs.drop ws.length) ws cost=C.flatMap (fun p=>ep (Cs.drop (ws.length+1)) (ws++[p.1]) (cost+p.2)):=by rw[X];rfl
  rw[hex];obtain⟨va,vc,rfl,bd,aN⟩:=b8.ah u;have d1:((ws.length:Int)==(W.length:Int))=false:=by simp;omega
  have HD:=bP X;have Hk:=bP hk;have Hw:=bP hw;have HC:=bP hC;clear bd aN be hex X hk hw hC a7 bh;go_enter func31,ntmps31;go_wp2_with fail;go_loopw [33] (fun i wx=>∃(j:Nat) (B:Value) (new:List Spl),j<=C.length/\i= .int .i64 j/\Boxed wx ob 36 B/\wx.ownsRow d.heap.size 48 2 B (L++new).length ((L++new).flatMap Spl.cells)/\wx.ownsRow d.heap.size 9 1 (.slice va ws.length vc) ws.length (strs ws)/\
   new.map Spl.key=(C.take j).flatMap (fun p=>ep (Cs.drop (ws.length+1)) (ws++[p.1]) (cost+p.2))/\rX wp wx new/\Chg (fun k=>k=ob\/some k=(Value.slice va ws.length vc).ownBlock\/jw d.heap.size wp k) wp wx) (fun i _=>C.length-(intOf i).toNat)
  case atStart=>exact⟨0,ov,[],zero_le _,rfl,E,by rw[append_nil];exact J,u,rfl,(fun x hx=>absurd hx (by simp)),Chg.refl _ _⟩
  case round=>
   obtain⟨j,B,new,hj,rfl,aC,aK,aO,Z,aM,D⟩:=hrel;by_cases O:j<C.length
   .have V:Chg (·=ob) d wr:=by
     refine⟨D.os.trans c.os,D.tape.trans c.tape,D.output.trans c.output,Nat.le_trans c.size D.size,fun q hq ab=>(D.block q (Nat.lt_of_lt_of_le hq c.size) ?_).trans (c.block q hq ab)⟩;rintro(e |e |e)
     .exact ab e
     .have:=(u.lt q e.symm).1;omega
     .have:=e.1;omega
    obtain⟨-, -, -,y2,y3,aI⟩:=m.out wr V;obtain⟨aB, -, -⟩:=aI _ w C Hw.out HC.out;obtain⟨cg,co,bC, -,a6⟩:=aB.strs (by simp;omega);obtain⟨t,ct,ht⟩:∃t ct,C[j]=(t,ct):=⟨_,_,rfl⟩;have z0:=a6 j (by simpa using O);rw[show(C.map (·.1))[j]'(by simpa using O)=t by rw[getElem_map,ht]]at z0;have aq:(t,ct)∈C:=by rw[<-ht];exact getElem_mem O
    have bH:=aU C (mem_of_getElem? HC.out) _ aq;dsimp only at bH;have A:=bP (fun(wx:World) (h:Chg (·=ob) d wx)=>(((m.out wx h).2.2.2.2.2 _ w C Hw.out HC.out).2.2 (t,ct) aq));have s:=bV Z aM aC aK aO D;clear aI aB a6 Z aM aq;rw[bC];go_upto_region 6 with (fail);have b1:IntKind.i64.wrap (cost+ct)=cost+ct:=IntWalk.i64_in _ (by omega);have aj:Chg (·=ob) d wr.drew:=V.trans (Chg.ai _ (Go.below_drewN (Below.refl _ wr) 1));refine wp_region_held_drew (S:=fun w'=>Chg (·=ob) d w') (by kernel_rfl) aj (fun aT=>?_);refine wpAnyH_take (i:=0) (v:=?_) rfl (by kernel_rfl) (by kernel_rfl) (by kernel_rfl) (fun _ _ _ h=>h) (Or.inl ⟨by rfl,?_⟩) (by assumption) ?_;rotate_left
    .intro w' a;obtain⟨-, -, -,s2,s3, -⟩:=m.out w' a;have o:=A.out w' a;dsimp only at o;go_simp<;>with_reducible rfl
    try simp only[Act.put,setIfInBounds_toArray]
    refine wpAnyH_take (i:=1) (v:=?_) rfl (by kernel_rfl) (by kernel_rfl) (by kernel_rfl) (fun _ _ _ h=>h) (Or.inl ⟨by rfl,?_⟩) (by assumption) ?_;rotate_left
    .intro w' a;obtain⟨-, -, -,s2,s3, -⟩:=m.out w' a;have o:=A.out w' a;dsimp only at o;go_simp<;>with_reducible rfl
    try simp only[Act.put]
    refine wpAnyH_take (i:=2) (v:=?_) rfl (by kernel_rfl) (by kernel_rfl) (by kernel_rfl) (fun _ _ _ h=>h) (Or.inl ⟨by rfl,?_⟩) (by assumption) ?_;rotate_left
    .intro w' a;obtain⟨-, -, -,s2,s3, -⟩:=m.out w' a;have o:=A.out w' a;dsimp only at o;go_simp<;>with_reducible rfl
    try simp only[Act.put]
    refine wpAnyH_take (i:=5) (v:=?_) rfl (by kernel_rfl) (by kernel_rfl) (by kernel_rfl) (fun _ _ _ h=>h) (Or.inl ⟨by rfl,?_⟩) (by assumption) ?_;rotate_left
    .intro w' a;obtain⟨-, -, -,s2,s3, -⟩:=m.out w' a;have o:=A.out w' a;dsimp only at o;go_simp<;>with_reducible rfl
    try simp only[Act.put]
    refine wpAnyH_take (i:=6) (v:=?_) rfl (by kernel_rfl) (by kernel_rfl) (by kernel_rfl) (fun _ _ _ h=>h) (Or.inl ⟨by rfl,?_⟩) (by assumption) ?_;rotate_left
    .intro w' a;obtain⟨-, -, -,s2,s3, -⟩:=m.out w' a;have o:=A.out w' a;dsimp only at o;go_simp<;>with_reducible rfl
    try simp only[Act.put]
    refine wpAnyH_take (i:=7) (v:=?_) rfl (by kernel_rfl) (by kernel_rfl) (by kernel_rfl) (fun _ _ _ h=>h) (Or.inl ⟨by rfl,?_⟩) (by assumption) ?_;rotate_left
    .intro w' a;obtain⟨-, -, -,s2,s3, -⟩:=m.out w' a;have o:=A.out w' a;dsimp only at o;go_simp<;>with_reducible rfl
    try simp only[Act.put]
    refine wpAnyH_take (i:=8) (v:=?_) rfl (by kernel_rfl) (by kernel_rfl) (by kernel_rfl) (fun _ _ _ h=>h) (Or.inl ⟨by rfl,?_⟩) (by assumption) ?_;rotate_left
    .intro w' a;obtain⟨-, -, -,s2,s3, -⟩:=m.out w' a;have o:=A.out w' a;dsimp only at o;go_simp<;>with_reducible rfl
    try simp only[Act.put]
    refine wpAnyH_take (i:=9) (v:=?_) rfl (by kernel_rfl) (by kernel_rfl) (by kernel_rfl) (fun _ _ _ h=>h) (Or.inl ⟨by rfl,?_⟩) (by assumption) ?_;rotate_left
    .intro w' a;obtain⟨-, -, -,s2,s3, -⟩:=m.out w' a;have o:=A.out w' a;dsimp only at o;go_simp<;>with_reducible rfl
    try simp only[Act.put]
    refine wpAnyH_take (i:=10) (v:=?_) rfl (by kernel_rfl) (by kernel_rfl) (by kernel_rfl) (fun _ _ _ h=>h) (Or.inl ⟨by rfl,?_⟩) (by assumption) ?_;rotate_left
    .intro w' a;obtain⟨-, -, -,s2,s3, -⟩:=m.out w' a;have o:=A.out w' a;dsimp only at o;go_simp<;>with_reducible rfl
    try simp only[Act.put]
    refine wpAnyH_take (i:=11) (v:=?_) rfl (by kernel_rfl) (by kernel_rfl) (by kernel_rfl) (fun _ _ _ h=>h) (Or.inl ⟨by rfl,?_⟩) (by assumption) ?_;rotate_left
    .intro w' a;obtain⟨-, -, -,s2,s3, -⟩:=m.out w' a;have o:=A.out w' a;dsimp only at o;go_simp<;>with_reducible rfl
    try simp only[Act.put]
    have Q:Chg (·=ob) d (wr.alloc (.cells #[.string t] 9)):=V.trans (Chg.ai _ (bX.alloc bW _));refine rd1 3 (fun K hK=>?_);go_simp;refine hK.out _ _ (by first |exact Q |exact Q.trans (Chg.ai _ (Go.below_drewN bX 1)) |exact aj.trans (Chg.ai _ (bX.alloc bW _))) (fun _=>?_);clear hK K;try simp only[pS]
    refine rd1 4 (fun K hK=>?_);refine rO _ (by rfl) _ _ _ (by rfl) d.heap.size 9 i0 (.string ByteArray.empty) 1 16 underlying29 hi bK bL bM rfl (by decide) (.slice va ws.length vc) ws.length (strs ws) (by rfl) (s.out.2.2.2.2.1.alloc _) ⟨wr.heap.size,0,none⟩ 1 1 [.string t] (by rfl) rfl (by exact cell_one_new _ _ _) (by simp[Value.oneCell']) (by unfold maxLen;omega) (by omega) (by have:=V.size;simp;omega) ?_;intro v' w2 f Y;obtain⟨g,cap,rfl⟩:=ownsRow_succ f;have b:(wr.alloc (.cells #[.string t] 9)).drew.grownBy w2 (Value.slice va ws.length vc).ownBlock:=by
     rcases Y with ⟨g2,b6,e1, -,hg⟩ |⟨-,hg⟩
     .cases e1;exact hg
     .exact⟨hg.os,hg.tape,hg.output,hg.size,fun k hk _=>hg.block k hk (by simp)⟩
    have aS:=bP Y;clear Y;have a1:Chg (·=ob) d (wr.alloc (.cells #[.string t] 9)).drew:=Q.trans (Chg.ai _ (Go.below_drewN bX 1));have aD:Chg (·=ob) d w2:=a1.aH b (fun r e=>(s.out.2.2.2.2.1.lt r e).1);have P:Blk (wr.alloc (.cells #[.string t] 9)).drew ob #[B] 36:=(show Blk wr ob #[B] 36 from s.out.2.2.1).alloc _;have aY:Boxed w2 ob 36 B:=P.grown b (fun e=>Blk.own_ne (show Blk wr ob #[B] 36 from s.out.2.2.1) s.out.2.2.2.2.1 (by decide) e.symm);have bb:=dK (show(wr.alloc (.cells #[.string t] 9)).drew.ownsRow d.heap.size 48 2 B (L++new).length ((L++new).flatMap Spl.cells)from fk (s.out.2.2.2.1.alloc _)) (fk (s.out.2.2.2.2.1.alloc _)) (by decide) b;refine hK.out _ _ aD (fun _=>?_);clear hK K;try simp only[Act.put,setIfInBounds_toArray]
    have R:(ws++[t]).length=ws.length+1:=by simp
    have bc:strs (ws++[t])=strs ws++[.string t]:=by simp[strs]
    have aE:=ih (ws++[t]) (cost+ct) (.slice (some ⟨g,0,none⟩) (ws.length+1) cap) (L++new) B w2 (by rw[R];have:=Hk.out;omega) (by omega) (by rw[R];push_cast;omega) (by rw[R];exact B0 O s.out.1 (by rw[<-HD.out];exact hL)) aD aY bb (by rw[bc,R];exact f);rw[R]at aE;have bu:=bP aE;clear aE aY bb;refine rd1 12 (fun K hK=>?_);go_simp;refine bu.out.mono ?_;rintro e w3 ⟨rfl,bT,aP,k1,k2,k3,k4,k5,k6⟩;go_simp;rw[R,bc]at k3;obtain⟨r1,r2,r3⟩:=Dx ad c u s.out.2.2.2.2.2 s.out.2.2.2.2.1 s.out.2.1 aS.out k3 k5 k6;have aZ:Chg (·=ob) d w3:=by
     refine⟨r3.os.trans c.os,r3.tape.trans c.tape,r3.output.trans c.output,Nat.le_trans c.size r3.size,fun q hq ab=>(r3.block q (Nat.lt_of_lt_of_le hq c.size) ?_).trans (c.block q hq ab)⟩;rintro(e |e |e)
     .exact ab e
     .have:=(u.lt q e.symm).1;omega
     .have:=e.1;omega
    rw[append_assoc]at k2;have aG:(new++aP).map Spl.key=(C.take (j+1)).flatMap (fun p=>ep (Cs.drop (ws.length+1)) (ws++[p.1]) (cost+p.2)):=by
     rw[take_succ_eq_append_getElem O,flatMap_append,map_append,s.out.1,k4,ht];simp
    have aW:=bP (show j+1<=C.length from O);have bg:=(bj C (mem_of_getElem? HC.out)).2;have ch:j+1<=64:=Nat.le_trans O bg;have bf:=bV k1 k2 r1 aG r2 r3;refine hK.out _ _ aZ (fun _=>?_);clear hK K;try simp only[pS]
    refine wpAnyH_done (by kernel_rfl) ?_ _;clear k1 k2 k3 k4 k5 k6 r1 r2 r3 aG aZ aD a1 Q aj b f;go_wp2_with fail;exact⟨⟨j+1,bT,new++aP,aW.out,by go_num,bf.out⟩,by have:=aW.out;simp[intOf];omega⟩
   .obtain rfl:j=C.length:=by omega
    rw[take_length]at Z;go_wp2_with fail;refine bodyPost_ret (results_none rfl _ _ _) rfl ?_;exact⟨rfl,B,new,aC,aK,aO,Z,aM,D⟩
end
section
open Go.RowKit
theorem qj {F:Fence}{n:Nat}{P:Program}{α:Type}{g:Operand}{ps:Array Tmp}{assign body:Code}{Q:Exit->Act->World->Prop}{a:Act}{w:World}
  (aA:F.round=none)(h1:1<=n){gf:Nat}{lb:Array Value}(i:a.eval g= .func (.func gf) #[] lb)(ag:F.fn gf)(eg:∀args w,(callFunc gf args).run P w= .ok (.enter gf args) w)
  {encs:α->Array Value}{Kp:World->World->Prop}{S Sp:List α->Prop}{N:Nat}{w0:World}(ab:SeqStopsK F (n-1) P gf lb encs Kp S Sp N w0)
  (ai:∀{A B C:World},Kp A B->Kp B C->Kp A C)(ah:∀(W:World) (l:Nat) (o o':Obj),w.heap.size<=l->W.heap[l]?=some o->o.isCells=false->o.isWalk=false->Kp W (W.putObj l o'))(U:Below w0.heap.size w0 w)(az:∀x,(encs x).size=ps.size)
  (I:List α->World->Prop)(q:OwnFrom w.heap.size I)(h0:I [] w)(y:World->α->Act->World->Prop)(af:∀(z:World) (x:α) (c:Act) (W:World) (l:Nat) (o o':Obj),y z x c W->w.heap.size<=l->W.heap[l]?=some o->o.isCells=false->o.isWalk=false->y z x c (W.putObj l o'))
  (u:∀(l:Nat) (pre:List α) (x:α) (W:World) (K:Act->World->Prop),I pre W->(∀c W',KeepsFrom w.heap.size W W'->I pre W'->y W x c W'->K c W')->
   assign.wpIn (F.inRound l) (n-1-1) P (Exit.then K (fun _ _ _=>False)) { tmps:=(ps.zip (encs x)).foldl (fun t (p,v)=>t.setIfInBounds p v) a.tmps,defers:=[] } W)
  (O:∀(l:Nat) (pre:List α) (x:α) (c:Act) (z W:World),I pre W->y z x c W->pre.length<N->
   body.wpIn (F.inRound l) (n-1-1) P (fun e _ W'=>e= .normal/\KeepsFrom w.heap.size W W'/\Kp z W'/\I (pre++[x]) W') c W)
  (T:∀(D:Nat) (xs:List α) (W:World),w.heap.size<=D->S xs->I xs W->W.heap[D]?=some (.deferred (some []))->Q .normal { a with defers:={ target:= .collected D,args:= #[] }::a.defers } W):
  (Code.rangeFunc g ps assign body).wpIn F n P Q a w:=by
 refine wpIn_rangeFunc fun fn aq=>?_;rw[aA];let R:LoopState->Loop:=fun st=>{ state:=st,pending:=none,fn,tmps:=a.tmps,params:=ps,assign,body,defers:=w.heap.size };obtain⟨B,M⟩:∃B,B=w.heap.size:=⟨_,rfl⟩;obtain⟨b,d⟩:∃b,b=(w.alloc (.deferred (some []))).alloc (.loop (R .ready)):=⟨_,rfl⟩;have rL:b.heap[B+ 1]?=some (.loop (R .ready)):=by
  have h:=alloc_heap_new (w.alloc (.deferred (some []))) (.loop (R .ready));rw[size_alloc,<-M]at h;rw[d];exact h
 have rD:b.heap[B]?=some (.deferred (some [])):=by
  rw[d,M];exact(Below.heap_alloc _ _ _ (by simp)).trans (alloc_heap_new w _)
 have iI:I [] b:=by rw[d];exact q.alloc _ (q.alloc _ h0)
 have aP:b.heap.size=B+2:=by rw[d,M];simp
 have ae:Below w0.heap.size w0 b:=by
  rw[d];exact U.trans ((((Below.refl _ w).alloc bW _).alloc (by simp) _).mono U.size)
 refine⟨B+1,[{ target:= .collected B,args:= #[] }],b,{ target:= .fn (.func gf) lb,args:= #[.func (.yield (B+1)) #[] #[]] },b,gf,#[.func (.yield (B+1)) #[] #[]]++lb,b,?_,?_,?_,?_,fun _=>h1,?_⟩
 .rw[d,M];exact run_enterLoop_outer _ _ _ _ _
 .simp only[resolve,i];simp[go_sem]
 .intro f hf;simp[Target.leads]at hf;rw[<-hf];exact ag
 .simp[invoke,go_sem,eg]
 let J:List α->World->Prop:=fun pre W=>I pre W/\W.heap[B+ 1]?=some (.loop (R .ready))/\W.heap[B]?=some (.deferred (some []));have stays:∀{X Y:World} {row:Option Nat} {k:Nat} {o:Obj},X.grownBy Y row->(∀r,row=some r->b.heap.size<=r/\∃o:Obj,X.heap[r]?=some o/\o.isWalk=true)->k<b.heap.size->X.heap[k]?=some o->Y.heap[k]?=some o:=fun i H hk ho=>
  (i.block _ (Array.getElem?_eq_some_iff.1 ho).1 (fun e=>by have:=(H _ e.symm).1;omega)).trans ho
 have hJ:AbidesFrom b.heap.size J:=fun pre X Y row L i H=>
  ⟨q pre X Y row L.1 i (fun r e=>by obtain⟨h2,o,h3,h4⟩:=H r e;exact⟨by omega,o,h3,Obj.not_cells_of_walk h4⟩),stays i H (by omega) L.2.1,stays i H (by omega) L.2.2⟩
 refine(ab (B+1) J (fun _ _=>False) b ae hJ (fun _ _ _ _ L _ _=>L) ?_ ⟨iI,rL,rD⟩).mono ?_
 .rintro pre x W ⟨hi,G,Z⟩ hlen;refine⟨fn,_,assign,body,run_yield (P:=P) (args:=encs x) G (az x),roundIn_of_wpIn aq (u _ pre x W _ hi ?_)⟩;intro c Wa V au aj;have j:=V.same _ _ (by omega) G rfl;have al:=V.same _ _ (by omega) Z rfl;have ax:=(Array.getElem?_eq_some_iff.1 j).1;refine⟨_,run_beginRound j rfl,?_⟩;obtain⟨X,s⟩:∃X,X=Wa.putObj (B+1) (.loop (R .busy)):=⟨_,rfl⟩;have xl:X.heap[B+ 1]?=some (.loop (R .busy)):=by rw[s];exact putObj_heap_same ax
  have xd:X.heap[B]?=some (.deferred (some [])):=by rw[s];exact(putObj_heap_other (by omega)).trans al
  have xi:I pre X:=by rw[s];exact q.putObj _ au (by omega) j rfl
  have xa:y W x c X:=by rw[s];exact af W x c _ _ _ _ aj (by omega) j rfl rfl
  have hb:=O (B+1) pre x c W X xi xa hlen;rw[s]at hb;refine wpIn_mono hb ?_;rintro e a3 W3 ⟨rfl,E,aw,ar⟩;rw[<-s]at E;have m:=E.same _ _ (by omega) xl rfl;have an:=E.same _ _ (by omega) xd rfl;exact⟨_,_,run_endRound (P:=P) none m,.inl ⟨rfl,⟨q.putObj _ ar (by omega) m rfl,putObj_heap_same (Array.getElem?_eq_some_iff.1 m).1,(putObj_heap_other (by omega)).trans an⟩,ai aw (ah _ _ _ _ (by omega) m rfl rfl)⟩⟩
 .rintro e W2 ⟨⟨v,rfl⟩,⟨xs,hS,hi,G,Z⟩ |⟨pre,_,h⟩⟩
  .exact⟨none,_,run_endLoop (P:=P) G (by simp[R]),T B xs _ (by omega) hS (q.putObj _ hi (by omega) G rfl) ((putObj_heap_other (by omega)).trans Z)⟩
  .exact h.elim
open Go.Shelf Classical
attribute [local go_sem] Oper.semAt_some
noncomputable def zX (w:World)(b r:Nat):Nat:=match w.heap[b]?,w.heap[r]? with
 |some (.map es _),some (.mapIter _ _ seen _)=>(leftOf es seen).size
 |_,_=>0
theorem wY {w:World}{r:Nat}{Ok:Value->Prop}{l left:List (Value×Value)}(h:cx w b r Ok l left):zX w b r=left.length:=by
 obtain⟨es,clock,since,seen,c0,h1,d,e,f,a,g,i,j,c⟩:=h;rw[<-c];simp[zX,h1,a]
def iB (b Bt:Nat)(X Y:World):Prop:=Y.heap[b]?=X.heap[b]?/\Y.heap[Bt]?=X.heap[Bt]?/\∀(i:Nat) (o:Obj),X.heap[i]?=some o->(∃s sn c0,o= .mapIter (some b) s sn c0)->Y.heap[i]?=some o
theorem iB.range {Bt r:Nat}{X Y:World}{l left:List (Value×Value)}(h:cx X b r gK l left)(k:iB b Bt X Y):cx Y b r gK l left:=by
 obtain⟨es,clock,since,seen,c0,h1,a,c,d,e,f⟩:=h;exact⟨es,clock,since,seen,c0,k.1.trans h1,a,c,d,k.2.2 _ _ e ⟨_,_,_,rfl⟩,f⟩
set_option maxRecDepth 100000
set_option maxHeartbeats 4000000
theorem C4 (n:Nat)(hn:1<=n)(y Bt b:Nat)(es:List (Value×Value))(J Jx:List (ByteArray×ByteArray)->World->Prop)
  (hY:∀pre x W,J pre W->pre.length<es.length->YieldAt Fence.wide (n-1) prog y #[chV x] W fun e W'=>
   (e= .returned (.bool true)/\J (pre++[x]) W'/\iB b Bt W W')\/(e= .returned (.bool false)/\Jx (pre++[x]) W'))
  (W:World)(G:AbidesFrom W.heap.size J)(hB:Blk W Bt #[.map (some b)] 61)(hM:ch W b gK es)(h0:J [] W):
  CallsIn Fence.wide n prog 69 #[.func (.yield y) #[] #[],.pointer (some ⟨Bt,0,none⟩)] W fun e W'=>(∃v,e= .returned v)/\
   ((∃ys:List (ByteArray×ByteArray),(ys.map chV).Perm (es.map (·.1))/\J ys W')\/(∃pre:List (ByteArray×ByteArray),True/\Jx pre W')):=by
 refine callsIn_of_wp func69 rfl trivial ?_ rfl;simp only[ntmps69,size_toArray,length_cons,length_nil,Nat.reduceAdd,Nat.reduceSub,Array.replicate_succ,Array.replicate_zero,push_toArray,append_toArray,nil_append,cons_append];have c0:W.cell? ⟨Bt,0,none⟩=some (.map (some b)):=hB.cell 0;obtain⟨ro,c,g⟩:=ch.range (P:=prog) hM underlying61;have N:=hM.ok;obtain⟨w,A⟩:∃w:World,w=W.alloc ro:=⟨_,rfl⟩;rw[<-A]at c g;have T:Below W.heap.size W w:=by rw[A];exact bX.alloc bW _
 have h1:J [] w:=G [] W w none h0 (gO T none) (fun r e=>by cases e);have ae:=bP N;have H1:=bQ g h1;have aF:=hM.lt;have aE:=hB.lt;obtain⟨r,hr⟩:∃r,W.heap.size=r:=⟨_,rfl⟩;rw[hr]at H1 c G;clear N A g h1 h0 T;gi_wp2;clear c0 c;gi_loopw [] (fun H=>∃(pre:List (ByteArray×ByteArray)) (I:List (Value×Value)),cx H b r gK es I/\(pre.map chV++I.map (·.1)).Perm (es.map (·.1))/\J pre H) (fun H=>zX H b r);case atStart=>exact⟨[],es,H1.out.1,List.Perm.refl _,H1.out.2⟩
 case round=>
  obtain⟨pre,I,g,s,R⟩:=hrel;have l:=bP g;have d:=bP s;have L:=bP R;clear g s R;rcases cx.next (P:=prog) l.out 0 with ⟨i,c⟩ |⟨t,p,B',w',i,c,j,U,an,C⟩
  .have E:∀ty,(Instr.next (.pointer (some ⟨r,0,none⟩)) false ty).run prog wr= .ok (.tuple #[.bool false]) wr:=fun _=>c;have Hp:=bP (show(pre.map chV).Perm (es.map (·.1)) by have:=d.out;rwa [i,map_nil,append_nil]at this);clear i c;gi_wp2;go_end0;exact⟨⟨_,rfl⟩,.inl ⟨pre,Hp.out,L.out⟩⟩
  .have V:p∈es:=by
    have hm:p.1∈es.map (·.1):=d.out.mem_iff.1 (mem_append.2 (.inr (by rw[i];simp)));obtain⟨M,clock,since,seen,ag,h1,h2,h3,h4,h5,h6,h7,h8,h9⟩:=l.out;have:p∈(leftOf M seen).toList.map (fun x=>(x.key,x.val)):=by rw[h9,i];simp
    obtain⟨x,hx,rfl⟩:=mem_map.1 this;rw[<-h4];refine mem_map.2 ⟨x,?_,rfl⟩;simp only[leftOf,Array.toList_filter]at hx;exact(mem_filter.1 hx).1
   obtain⟨k,hk⟩:=ae.out p V;obtain⟨pk,pv⟩:=p;simp only at hk;subst hk;have hlen:pre.length<es.length:=by
    have:=d.out.length_eq;rw[length_append,length_map,length_map,length_map,i,length_append,length_cons]at this;omega
   have E:∀ty,(Instr.next (.pointer (some ⟨r,0,none⟩)) false ty).run prog wr= .ok (.tuple #[.bool true,.agg #[.string k.1,.string k.2],pv]) w':=fun _=>c;have o:(Instr.entry (.pointer (some ⟨r,0,none⟩))).run prog w'= .ok (.tuple #[.agg #[.string k.1,.string k.2],pv]) w':=C;have S:J pre w':=G pre wr w' (some r) L.out U (fun q e=>by
    cases e
    obtain⟨M,clock,since,seen,ag,h1,h2,h3,h4,h5,h6⟩:=l.out;exact⟨bW,_,h5,rfl⟩)
   obtain⟨f,m⟩:∃f:World,f=w'.alloc (.cells #[.string k.1,.string k.2] 63):=⟨_,rfl⟩;have B:Below w'.heap.size w' f:=by rw[m];exact bX.alloc bW _
   have D:Blk f w'.heap.size #[.string k.1,.string k.2] 63:=by rw[m];exact Blk.new _ _ _
   have Q:J pre f:=G pre w' f none S (gO B none) (fun q e=>by cases e);have F:cx f b r gK es (t++B'):=cx.below j B (ch.lt (cx.isMap j)) (cx.lt j);have Y:((pre++[k]).map chV++(t++B').map (·.1)).Perm (es.map (·.1)):=by
    refine Perm.trans ?_ d.out;rw[i];simp only[map_append,map_cons,map_nil,append_assoc];refine Perm.append_left _ ?_;simp only[cons_append,nil_append];exact(perm_middle (l₁:=t.map (·.1)) (a:=chV k) (l₂:=B'.map (·.1))).symm
   have Z:I.length=(t++B').length+1:=by rw[i];simp;omega
   have k0:f.cell? ⟨w'.heap.size,0,none⟩=some (.string k.1):=D.cell 0;have k1:f.cell? ⟨w'.heap.size,1,none⟩=some (.string k.2):=D.cell 1;have ad:=bP (hY pre k f Q hlen);have H8:=bS F Y Z;clear i c C j U an V S B D Q F Y Z;obtain⟨fn,tmps,assign,body,hy,hR⟩:=ad.out;have HR:=bP hR;clear hR;unfold chV at hy;rw[m]at hy;gi_wp2;rw[<-m];refine HR.out.mono ?_;rintro e W3 (⟨rfl,O,X⟩ |⟨rfl,z⟩)
   .have u:=bQ O (iB.range H8.out.1 X);clear O X k0 k1 E o;gi_wp2;refine⟨⟨pre++[k],t++B',u.out.2,H8.out.2.1,u.out.1⟩,?_⟩;rw[wY u.out.2,wY l.out,H8.out.2.2];omega
   .have u:=bP z;clear z k0 k1 E o;gi_wp2;refine bodyPost_ret (results_none rfl _ _ _) rfl ?_;exact⟨⟨_,rfl⟩,.inr ⟨_,trivial,u.out⟩⟩
theorem By (a:Option Nat)(w:World):Calls prog 30 #[.map a] w fun e w'=>
  e= .returned (.func (.func 69) #[] #[.pointer (some ⟨w.heap.size,0,none⟩)])/\w'=w.alloc (.cells #[.map a] 61):=by
 go_enter func30,ntmps30;go_wp2;go_ret;exact⟨rfl,rfl⟩
theorem Bz (n:Nat)(l:1<=n)(Bt b:Nat)(es:List (Value×Value))(W:World)(a:Blk W Bt #[.map (some b)] 61)(c:ch W b gK es):
  SeqStopsK Fence.wide n prog 69 #[.pointer (some ⟨Bt,0,none⟩)] (fun x:ByteArray×ByteArray=> #[chV x]) (iB b Bt) (fun m=>(m.map chV).Perm (es.map (·.1))) (fun _=>True) es.length W:=by
 intro y J f g d j o k i;refine(C4 n l y Bt b es J f k g j (a.below d a.lt) (c.below d c.lt) i).mono ?_;rintro e X h;exact h
end
section
open Go.RowKit Go.Shelf Go.Lib Go.Sort Classical
set_option maxRecDepth 100000
set_option maxHeartbeats 4000000
theorem vV (a b:Arc)(w:World):
  Calls prog 202 #[.agg #[.int .i64 a.frm,.int .i64 a.inp,.int .i64 a.out,.int .i64 a.to],.agg #[.int .i64 b.frm,.int .i64 b.inp,.int .i64 b.out,.int .i64 b.to]] w
   fun e w'=>e= .returned (.int .i64 (lx a b))/\∃C D E,w'=(((w.alloc C).alloc D).drewN 1).alloc E:=by
 obtain⟨c,d⟩:∃c:World,c=(w.alloc (.cells #[.int .i64 a.frm,.int .i64 a.inp,.int .i64 a.out,.int .i64 a.to] 171)).alloc (.cells #[.int .i64 b.frm,.int .i64 b.inp,.int .i64 b.out,.int .i64 b.to] 171):=⟨_,rfl⟩;have f:Blk c w.heap.size #[.int .i64 a.frm,.int .i64 a.inp,.int .i64 a.out,.int .i64 a.to] 171:=by rw[d];exact(Blk.new _ _ _).alloc _
 have g:Blk c (w.heap.size+1) #[.int .i64 b.frm,.int .i64 b.inp,.int .i64 b.out,.int .i64 b.to] 171:=by
  rw[d];have:=Blk.new (w.alloc (.cells #[.int .i64 a.frm,.int .i64 a.inp,.int .i64 a.out,.int .i64 a.to] 171)) #[.int .i64 b.frm,.int .i64 b.inp,.int .i64 b.out,.int .i64 b.to] 171;simpa using this
 have a0:=f.cell 0;have q:=f.cell 1;have a2:=f.cell 2;have a3:=f.cell 3;have r:=g.cell 0;have s:=g.cell 1;have t:=g.cell 2;have u:=g.cell 3;simp only[getElem?_toArray,getElem?_cons_zero,getElem?_cons_succ]at a0 q a2 a3 r s t u;have k:=bP d;clear d f g;go_enter func202,ntmps202;go_wp2_with fail;rw[<-k.out];refine wp_region_still_tail 20 (by kernel_rfl) (by kernel_rfl) ?_;simp only[take_succ_cons,take_zero,drop_succ_cons,drop_zero];repeat (first |still_step |still_call (cmp_Compare_int _ _ _))
 refine wpStill_nil ?_;change wpList _ _ _ _ _ c.drew;obtain⟨c1,h1⟩:∃z,compareInt a.frm b.frm=z:=⟨_,rfl⟩;obtain⟨c2,m⟩:∃z,compareInt a.inp b.inp=z:=⟨_,rfl⟩;obtain⟨c3,n⟩:∃z,compareInt a.out b.out=z:=⟨_,rfl⟩;obtain⟨c4,o⟩:∃z,compareInt a.to b.to=z:=⟨_,rfl⟩;rw[h1,m,n,o];have A:=bP (show lx a b=orI [c1,c2,c3,c4]from by rw[lx,h1,m,n,o]);clear h1 m n o a0 q a2 a3 r s t u;have j:b8 (c.drew.alloc (.cells (nums [c1,c2,c3,c4]).toArray 3)) (c.drew.heap.size+1) (some ⟨c.drew.heap.size,0,none⟩) (nums [c1,c2,c3,c4]):=fun _=>
  ⟨_,0,rfl,by omega,fun i x B=>by rw[Nat.zero_add];exact Box.new c.drew (nums [c1,c2,c3,c4]) 3 i x B⟩
 have v:=rV [c1,c2,c3,c4] _ 4 _ (by simp[maxLen]) _ j;have y:=bP v;clear v j;go_wp2_with fail;refine y.out.mono ?_;rintro e F ⟨rfl,l⟩;have p:=bP l;clear l;go_wp2_with fail;go_ret;exact⟨dL A.out.symm,_,_,_,by rw[p.out,k.out];rfl⟩
theorem CP (blk off size:Nat)(w:World):CmpLays prog 202 #[] Arc.cells 4 lx blk off size w:=fun m os c _ x y=>by
 refine(vV x y _).mono ?_;rintro e w' ⟨rfl,a,b,d,rfl⟩;refine⟨rfl,1,#[a,b,d],?_⟩;generalize sortWorldK Arc.cells 4 w blk off m c os=W;rw[show(W.alloc a).alloc b=grow W #[a,b]from by rw[alloc_eq_grow,alloc_eq_grow,grow_grow];rfl];rw[show(grow W #[a,b]).drewN 1=grow (W.drewN 1) #[a,b]from rfl,alloc_eq_grow,grow_grow];rfl
theorem Fe (l:List Arc)(g c base:Nat)(w:World)(hle:l.length<=1000000000000000)(d:w.ownsRow base 171 4 (.slice (some ⟨g,0,none⟩) l.length c) l.length (flat l)):
  Calls prog 152 #[.slice (some ⟨g,0,none⟩) l.length c,.func (.func 202) #[] #[]] w fun e w'=>
   e= .returned (.tuple #[])/\∃S:List Arc,S.length=l.length/\S.Perm l/\S.Pairwise (fun a b=>¬b.lt a)/\w'.ownsRow base 171 4 (.slice (some ⟨g,0,none⟩) l.length c) l.length (flat S)/\Chg (·=g) w w':=by
 have h:=sW (fun x:Arc=>x) lx yK (fun x y e=>e) 202 (enters_of func202 (by kernel_rfl) rfl) CP l g c base w hle (by rw[map_id'];exact d);refine h.mono ?_;rintro e w' ⟨he,S,h1,j,f,i,k⟩;rw[map_id']at f i;exact⟨he,S,h1,j,f,i,k⟩
theorem Chg.aC {S:Nat->Prop}{w W:World}(h:Chg S w W){p:Addr}(hp:w.heap.size<=p.block)(v:Value):Chg S w (W.setCell p v):=
 h.aM (T:=fun k=>k=p.block) (Chg.setCell (S:=fun k=>k=p.block) _ (.inl rfl) _) (fun i a h=>by omega)
def jo (w:World)(base:Nat)(v:Value)(l:List Arc):Prop:=w.ownsRow base 171 4 v l.length (flat l)
theorem Dw (l:List Arc)(v:Value)(base:Nat)(w:World)(hle:l.length<=1000000000000000)(d:jo w base v l):
  Calls prog 152 #[v,.func (.func 202) #[] #[]] w fun e w'=>
   e= .returned (.tuple #[])/\∃S:List Arc,S.length=l.length/\S.Perm l/\S.Pairwise (fun a b=>¬b.lt a)/\jo w' base v S/\Chg (fun g=>v.ownBlock=some g) w w':=by
 by_cases i:l.length=0
 .obtain⟨a,c,rfl, -, -⟩:=b8.ah d;rw[i];refine Calls.mono (AnyF.slices_SortFunc_none sortArc a c (.func (.func 202) #[] #[]) w) ?_;rintro e w' ⟨rfl,rfl⟩;have j:=length_eq_zero_iff.1 i;subst j;exact⟨rfl,[],rfl,List.Perm.refl _,Pairwise.nil,d,Chg.refl _ _⟩
 .obtain⟨m,hm⟩:∃m,l.length=m+1:=⟨l.length-1,by omega⟩;have f:=d;unfold jo at f;rw[hm]at f;obtain⟨g,cap,e⟩:=iS f;rw[<-hm]at e;subst e;refine(Fe l g cap base w hle d).mono ?_;rintro e w' ⟨rfl,S,q1,n,o,p,q⟩;exact⟨rfl,S,q1,n,o,by unfold jo;rw[q1];exact p,q.mono (fun k e=>by rw[e];rfl)⟩
theorem yd (S:List Arc)(v:Value)(base:Nat)(w:World)(hle:S.length<=1000000000000000)(d:jo w base v S):
  Calls prog 203 #[v] w fun e w'=>∃C aa ac,C=compact S/\e= .returned (.slice aa C.length ac)/\b8 w' w'.heap.size aa (flat C)/\(0<C.length->∀b o,aa=some ⟨b,o,none⟩->v.ownBlock=some b)/\Chg (fun g=>v.ownBlock=some g) w w':=by
 by_cases j:S.length=0
 .obtain⟨a,c,rfl, -, -⟩:=b8.ah d;have l:=length_eq_zero_iff.1 j;subst l;clear d;go_enter func203,ntmps203;go_wp2;go_ret;exact⟨[],a,c,rfl,rfl,fun h=>by simp[flat]at h,fun h=>by simp at h,Chg.refl _ _⟩
 .obtain⟨m,hm⟩:∃m,S.length=m+1:=⟨S.length-1,by omega⟩;have f:=d;unfold jo at f;rw[hm]at f;obtain⟨g,cap,e⟩:=iS f;rw[<-hm]at e;subst e;refine(vu S g cap base w hle d).mono ?_;rintro e w' ⟨rfl,q1,n⟩;exact⟨_,_,_,rfl,rfl,q1,fun _ b o e=>by injection e with e;injection e with i;rw[<-i];rfl,n.mono (fun k e=>by rw[e];rfl)⟩
theorem zB {l S:List Arc}(hp:S.Perm l)(h:S.Pairwise (fun a b=>¬b.lt a)):gI l (compact S):=
 ⟨x9 h,fun a=>by rw[yb,hp.mem_iff]⟩
def nr (st:Int)(S:List Arc):Prop:=4000<st\/20000<S.length
def vD (st start:Int)(fa:Option Addr)(fl fc:Nat)(l:List Arc)(av:Value)(w:World)(e:Ending)(w':World):Prop:=
 ∃S,gI l S/\Chg (fun g=>av.ownBlock=some g) w w'/\((nr st S/\e= .returned (.tuple #[.agg #[.int .i64 0,.int .i64 0,.slice none 0 0,.slice none 0 0],.int .i64 2]))\/
  (¬nr st S/\∃aa ac,e= .returned (.tuple #[.agg #[.int .i64 st,.int .i64 start,.slice fa fl fc,.slice aa S.length ac],.int .i64 0])/\b8 w' w'.heap.size aa (flat S)))
theorem C9 (st start:Int)(fa:Option Addr)(fl fc:Nat)(l:List Arc)(av:Value)(base:Nat)(w:World)(hle:l.length<=1000000000000000)(q:jo w base av l):
  Calls prog 148 #[.agg #[.int .i64 st,.int .i64 start,.slice fa fl fc,av]] w (vD st start fa fl fc l av w):=by
 obtain⟨r,s⟩:∃r:World,r=(w.alloc (.cells #[.int .i64 st,.int .i64 start,.slice fa fl fc,av] 98)).alloc (.cells #[.int .i64 0,.int .i64 0,.slice none 0 0,.slice none 0 0] 98):=⟨_,rfl⟩;have J:Below w.heap.size w r:=by rw[s];exact(bX.alloc bW _).alloc (by simp) _
 have y:Blk r w.heap.size #[.int .i64 st,.int .i64 start,.slice fa fl fc,av] 98:=by rw[s];exact(Blk.new _ _ _).alloc _
 have G:Blk r (w.heap.size+1) #[.int .i64 0,.int .i64 0,.slice none 0 0,.slice none 0 0] 98:=by
  rw[s];have:=Blk.new (w.alloc (.cells #[.int .i64 st,.int .i64 start,.slice fa fl fc,av] 98)) #[.int .i64 0,.int .i64 0,.slice none 0 0,.slice none 0 0] 98;simpa using this
 have al:=y.lt;have an:=G.lt;have D:jo r base av l:=cJ q J;have X:∀g,av.ownBlock=some g->g<w.heap.size:=fun g e=>(q.lt g e).2;obtain⟨aa,ac,rfl, -, -⟩:=b8.ah q;have u:=bV s J y G D X;have m3:r.cell? ⟨w.heap.size,3,none⟩=some (.slice aa l.length ac):=y.cell 3;clear s J y G D X q;go_enter func148,ntmps148;go_wp2_with fail;rw[<-u.out.1];refine(Dw l _ base r hle u.out.2.2.2.2.1).mono ?_;clear m3;rintro e w1 ⟨rfl,S,Q,R,U,V,z⟩;have t:∀b,w.heap.size<=b->¬(Value.slice aa l.length ac).ownBlock=some b:=fun b M e=>by have:=u.out.2.2.2.2.2 b e;omega
 have F:=u.out.2.2.1.chg z (t _ bW);have O:=u.out.2.2.2.1.chg z (t _ (by omega));have H1:=bV Q R U V z (And.intro F O);have m3:w1.cell? ⟨w.heap.size,3,none⟩=some (.slice aa l.length ac):=F.cell 3;clear Q R U V z F O;go_wp2_with fail;have I:=H1.out.2.2.2.1;refine(yd S _ base w1 (by rw[H1.out.1];exact hle) I).mono ?_;clear m3 I;rintro e L ⟨C,a2,c2,hC,rfl,Z,H,A⟩;have c:=H1.out.2.2.2.2.2.1.chg A (t _ bW);have P:=H1.out.2.2.2.2.2.2.chg A (t _ (by omega));have m0:L.cell? ⟨w.heap.size,0,none⟩=some (.int .i64 st):=c.cell 0;have m1:L.cell? ⟨w.heap.size,1,none⟩=some (.int .i64 start):=c.cell 1;have m2:L.cell? ⟨w.heap.size,2,none⟩=some (.slice fa fl fc):=c.cell 2;have m3:L.cell? ⟨w.heap.size,3,none⟩=some (.slice aa l.length ac):=c.cell 3;have f3:=c.frozen 3;have N:gI l C:=by rw[hC];exact zB H1.out.2.1 H1.out.2.2.1
 clear hC;go_upto_region 3 with (fail);obtain⟨a,m⟩:∃a:World,a=L.setCell ⟨w.heap.size,3,none⟩ (.slice a2 C.length c2):=⟨_,rfl⟩;rw[<-m];have f:Blk a w.heap.size #[.int .i64 st,.int .i64 start,.slice fa fl fc,.slice a2 C.length c2] 98:=by
  rw[m];have:=c.aj 3 (.slice a2 C.length c2);simpa using this
 have d:Blk a (w.heap.size+1) #[.int .i64 0,.int .i64 0,.slice none 0 0,.slice none 0 0] 98:=by
  rw[m];exact P.far (p:=⟨w.heap.size,3,none⟩) (by show w.heap.size+1≠w.heap.size;omega) _
 have Y:Chg (fun g=>(Value.slice aa l.length ac).ownBlock=some g) w a:=by
  have h1:=(Chg.ai (fun g=>(Value.slice aa l.length ac).ownBlock=some g) u.out.2.1).trans (H1.out.2.2.2.2.1.trans A);refine h1.aM (T:=fun k=>k=w.heap.size) ?_ (fun i hi h=>by omega);rw[m];exact Chg.setCell (S:=fun k=>k=w.heap.size) (p:=⟨w.heap.size,3,none⟩) _ (.inl rfl) _
 have ab:b8 a a.heap.size a2 (flat C):=by
  rw[m];by_cases h0:C.length=0
  .exact fun h=>by rw[cT,h0]at h;simp at h
  .exact(Z.a6 (p:=⟨w.heap.size,3,none⟩) (fun b o e M=>t b (Nat.le_of_eq M.symm) (H (by omega) b o e)) _).more (by simp)
 have af:=bP (fun(h:0<C.length) b o (e:a2=some ⟨b,o,none⟩)=>u.out.2.2.2.2.2 b (H h b o e));have E:=bU f d Y ab N;have m0:a.cell? ⟨w.heap.size,0,none⟩=some (.int .i64 st):=f.cell 0;have m1:a.cell? ⟨w.heap.size,1,none⟩=some (.int .i64 start):=f.cell 1;have m2:a.cell? ⟨w.heap.size,2,none⟩=some (.slice fa fl fc):=f.cell 2;have m3:a.cell? ⟨w.heap.size,3,none⟩=some (.slice a2 C.length c2):=f.cell 3;have z0:a.cell? ⟨w.heap.size+1,0,none⟩=some (.int .i64 0):=d.cell 0;have z1:a.cell? ⟨w.heap.size+1,1,none⟩=some (.int .i64 0):=d.cell 1;have z2:a.cell? ⟨w.heap.size+1,2,none⟩=some (.slice none 0 0):=d.cell 2;have z3:a.cell? ⟨w.heap.size+1,3,none⟩=some (.slice none 0 0):=d.cell 3;have fz:∀j,a.frozen? ⟨w.heap.size+1,j,none⟩=false:=fun j=>d.frozen j;clear m f d Y ab N c P Z A H;have B:nr st C->vD st start fa fl fc l (.slice aa l.length ac) w (.returned (.tuple #[.agg #[.int .i64 0,.int .i64 0,.slice none 0 0,.slice none 0 0],.int .i64 2])) ((((a.setCell ⟨w.heap.size+1,0,none⟩ (.int .i64 0)).setCell ⟨w.heap.size+1,1,none⟩ (.int .i64 0)).setCell ⟨w.heap.size+1,2,none⟩ (.slice none 0 0)).setCell ⟨w.heap.size+1,3,none⟩ (.slice none 0 0)):=fun M=>
  ⟨C,E.out.2.2.2.2,(((E.out.2.2.1.aC (p:=⟨w.heap.size+1,0,none⟩) (by simp) _).aC (p:=⟨w.heap.size+1,1,none⟩) (by simp) _).aC (p:=⟨w.heap.size+1,2,none⟩) (by simp) _).aC (p:=⟨w.heap.size+1,3,none⟩) (by simp) _,.inl ⟨M,rfl⟩⟩
 have x:=bP B;clear B;by_cases h1:4000<st
 .have d1:decide (st>4000)=true:=decide_eq_true h1;have d2:decide (4000<st)=true:=decide_eq_true h1;go_wp2_with fail;refine bodyPost_ret (v:= .tuple #[.agg #[.int .i64 0,.int .i64 0,.slice none 0 0,.slice none 0 0],.int .i64 2]) (by simp[results,results148,go_sem,z0,z1,z2,z3]) rfl ?_;exact x.out (.inl h1)
 .have d1:decide (st>4000)=false:=decide_eq_false h1;have d2:decide (4000<st)=false:=decide_eq_false h1;by_cases h2:20000<C.length
  .have d3:decide ((C.length:Int)>20000)=true:=bZ;have d4:decide (20000<(C.length:Int))=true:=bZ;go_wp2_with fail;refine bodyPost_ret (v:= .tuple #[.agg #[.int .i64 0,.int .i64 0,.slice none 0 0,.slice none 0 0],.int .i64 2]) (by simp[results,results148,go_sem,z0,z1,z2,z3]) rfl ?_;exact x.out (.inr h2)
  .have d3:decide ((C.length:Int)>20000)=false:=bY;have d4:decide (20000<(C.length:Int))=false:=bY;go_wp2_with fail;refine bodyPost_ret (v:= .tuple #[.agg #[.int .i64 st,.int .i64 start,.slice fa fl fc,.slice a2 C.length c2],.int .i64 0]) (by simp[results,results148,go_sem,z0,z1,z2,z3]) rfl ?_;refine⟨C,E.out.2.2.2.2,(((E.out.2.2.1.aC (p:=⟨w.heap.size+1,0,none⟩) (by simp) _).aC (p:=⟨w.heap.size+1,1,none⟩) (by simp) _).aC (p:=⟨w.heap.size+1,2,none⟩) (by simp) _).aC (p:=⟨w.heap.size+1,3,none⟩) (by simp) _,.inr ⟨by unfold nr;omega,a2,c2,rfl,?_⟩⟩;by_cases h0:C.length=0
   .exact fun h=>by rw[cT,h0]at h;simp at h
   .have n:∀bb o,a2=some ⟨bb,o,none⟩->bb≠w.heap.size+1:=fun bb o e=>by
     have:=af.out (by omega) bb o e;omega
    exact((((E.out.2.2.2.1.a6 (p:=⟨w.heap.size+1,0,none⟩) n _).a6 (p:=⟨w.heap.size+1,1,none⟩) n _).a6 (p:=⟨w.heap.size+1,2,none⟩) n _).a6 (p:=⟨w.heap.size+1,3,none⟩) n _).more (by simp)
end
section
open Go.RowKit Go.Shelf Classical
noncomputable def kV (P:Nat->Prop)(n:Nat):Int:=if h:∃i,i<n/\P i/\∀j,j<i->¬P j then ((Classical.choose h:Nat):Int) else -1
theorem pE {P:Nat->Prop}{n:Nat}(hk:k<n)(h:P k)(a:∀j,j<k->¬P j):kV P n=(k:Int):=by
 have hex:∃i,i<n/\P i/\∀j,j<i->¬P j:=⟨k,hk,h,a⟩;unfold kV;rw[dif_pos hex];obtain⟨h1,b,c⟩:=Classical.choose_spec hex;rcases Nat.lt_trichotomy (Classical.choose hex) k with q |q |q
 .exact absurd b (a _ q)
 .rw[q]
 .exact absurd h (c k q)
theorem pF {P:Nat->Prop}{n:Nat}(h:∀j,j<n->¬P j):kV P n= -1:=by
 unfold kV;rw[dif_neg];rintro⟨i,h1,a,_⟩;exact h i h1 a
theorem mm (P:Nat->Prop):∀n:Nat,(kV P n= -1/\∀j,j<n->¬P j)\/∃k,k<n/\P k/\(∀j,j<k->¬P j)/\kV P n=(k:Int)
 |n=>by
  by_cases h:∃i,i<n/\P i/\∀j,j<i->¬P j
  .obtain⟨i,h1,b,c⟩:=h;exact .inr ⟨i,h1,b,c,pE h1 b c⟩
  .have a:∀j,j<n->¬P j:=by
    intro j;induction j using Nat.strongRecOn with
    |_ j f=>exact fun e hp=>h ⟨j,e,hp,fun i d=>f i d (by omega)⟩
   exact .inl ⟨pF a,a⟩
noncomputable def dF (b:cC)(s:ByteArray):Int:=kV (fun i=>∃A,b.no s i A) b.ae.length
theorem iJ {a b:ByteArray}:(a.toList==b.toList)=decide (a=b):=by
 rw[ByteArray.toList_eq,ByteArray.toList_eq];by_cases h:a=b
 .subst h;simp
 .rw[decide_eq_false h];simp only[beq_eq_false_iff_ne,ne_eq];intro e;exact h (cY e)
set_option maxRecDepth 100000
set_option maxHeartbeats 4000000
theorem qQ (b:cC)(v:Value)(s:ByteArray)(w:World)(h:dm w w.heap.size v b):
  Calls prog 81 #[v,.string s] w fun e w'=>e= .returned (.int .i64 (dF b s))/\Below w.heap.size w w':=by
 obtain⟨a,c,E,F,rfl,D,I,C,G⟩:=h;unfold maxLen at D;go_enter func81,ntmps81;go_upto_region 1 with (fail);generalize p:(w.alloc _)=y;have f:Below w.heap.size w y:=by rw[<-p];exact bX.alloc bW _
 have r:Box y w.heap.size [.slice a b.ae.length c,.slice E b.rules.length F]:=by rw[<-p];exact Box.new w _ 25
 obtain⟨m0,m1⟩:=r.c2;have x:=bQ f ((C.below f bW).more f.size);clear p f r C G;go_wp2_with fail;go_loop [5] (fun i=>∃k:Nat,k<=b.ae.length/\i= .int .i64 k/\∀j,j<k->¬∃A,b.no s j A) (fun i=>b.ae.length-(intOf i).toNat);case atStart=>exact⟨0,zero_le _,rfl,fun j h=>by omega⟩
 case round=>
  obtain⟨k,hk,rfl,u⟩:=hrel;have n:=bP u;clear u;by_cases t:k<b.ae.length
  .obtain⟨A,d⟩:∃A,b.ae[k]?=some A:=⟨_,getElem?_eq_getElem t⟩;obtain⟨g,o,L,fc,O,P,rfl,J,M,q1,N,q⟩:=x.out.2.get d;have d1:=iJ (a:=A.name) (b:=s);by_cases l:A.name=s
   .rw[decide_eq_true l]at d1;have m:=bP (show dF b s=(k:Int)from pE t ⟨A,d,l⟩ n.out);clear d q l;go_wp2;go_ret;exact⟨dL m.out.symm,x.out.1⟩
   .rw[decide_eq_false l]at d1;have m:=bP (show∀j,j<k+1->¬∃A,b.no s j A from fun j H=>by
     rcases Nat.lt_succ_iff_lt_or_eq.1 H with h |rfl
     .exact n.out j h
     .rintro⟨B,h1,z⟩;rw[d]at h1;rw[<-Option.some.inj h1]at z;exact l z)
    clear d q l;go_wp2;exact⟨⟨k+1,by omega,by go_num,m.out⟩,by simp[intOf];omega⟩
  .obtain rfl:k=b.ae.length:=by omega
   have m:=bP (show dF b s= -1 from pF n.out);go_wp2;go_ret;exact⟨dL m.out.symm,x.out.1⟩
noncomputable def eo (b:cC)(A B:cr):Int:=kV (fun i=>∃R,b.rules[i]?=some R/\R.src=A.name/\R.dst=B.name) b.rules.length
theorem j3 (b:cC)(v:Value)(x y:Nat)(A B:cr)(H:b.ae[x]?=some A)(I:b.ae[y]?=some B)(w:World)(h:dm w w.heap.size v b):
  Calls prog 82 #[v,.int .i64 x,.int .i64 y] w fun e w'=>e= .returned (.int .i64 (eo b A B))/\Below w.heap.size w w':=by
 obtain⟨a,c,J,L,rfl,O,P,G,M⟩:=h;unfold maxLen at O P;have af:=(List.getElem?_eq_some_iff.1 H).1;have ag:=(List.getElem?_eq_some_iff.1 I).1;go_enter func82,ntmps82;go_upto_region 1 with (fail);generalize s:(w.alloc _)=F;have l:Below w.heap.size w F:=by rw[<-s];exact bX.alloc bW _
 have C:Box F w.heap.size [.slice a b.ae.length c,.slice J b.rules.length L]:=by rw[<-s];exact Box.new w _ 25
 obtain⟨g,o,la,fc,sa,sc,rfl,hg,t, -, -, -⟩:=((G.below l bW).more l.size).get H;obtain⟨g',o',ah,Z,ar,au,e',ab,u, -, -, -⟩:=((G.below l bW).more l.size).get I;cases e'
 have p:=bU C.c2 t u l ((M.below l bW).more l.size);clear s l C G M t u H I;go_wp2_with fail;go_loopw [7] (fun i wr=>∃k:Nat,k<=b.rules.length/\i= .int .i64 k/\(∀j,j<k->¬∃R,b.rules[j]?=some R/\R.src=A.name/\R.dst=B.name)/\∃q,wr=F.drewN q) (fun i _=>b.rules.length-(intOf i).toNat);case atStart=>exact⟨0,zero_le _,rfl,fun j h=>by omega,0,rfl⟩
 case round=>
  obtain⟨k,hk,rfl,E,q,Q⟩:=hrel;have d:=bQ E Q;clear E Q;obtain⟨⟨m0,m1⟩,t,u, -, -⟩:=p.out;have aj:wr.cell? ⟨w.heap.size,0,none⟩=some (.slice (some ⟨g,o,none⟩) b.ae.length c):=by rw[d.out.2];exact m0
  have ak:wr.cell? ⟨w.heap.size,1,none⟩=some (.slice J b.rules.length L):=by rw[d.out.2];exact m1
  have al:wr.cell? ⟨g,o+x*3,none⟩=some (.string A.name):=by rw[d.out.2];exact t
  have aq:wr.cell? ⟨g,o+y*3,none⟩=some (.string B.name):=by rw[d.out.2];exact u
  clear m0 m1 t u;by_cases D:k<b.rules.length
  .obtain⟨R,r⟩:∃R,b.rules[k]?=some R:=⟨_,getElem?_eq_getElem D⟩;obtain⟨g2,T,ai,aa,rfl,ad,U,q1,Y,N⟩:=p.out.2.2.2.2.get r;have an:wr.cell? ⟨g2,T+k*3,none⟩=some (.string R.src):=by rw[d.out.2];exact U
   have ao:wr.cell? ⟨g2,T+k*3+1,none⟩=some (.string R.dst):=by rw[d.out.2];exact q1
   have d1:=iJ (a:=R.src) (b:=A.name);have d2:=iJ (a:=R.dst) (b:=B.name);have z:=bP r;clear U q1 Y N r;have f:¬(R.src=A.name/\R.dst=B.name)->∀j,j<k+1->¬∃R,b.rules[j]?=some R/\R.src=A.name/\R.dst=B.name:=fun X j V=>by
    rcases Nat.lt_succ_iff_lt_or_eq.1 V with h |rfl
    .exact d.out.1 j h
    .rintro⟨S,h1,m⟩;rw[z.out]at h1;rw[<-Option.some.inj h1]at m;exact X m
   by_cases h1:R.src=A.name
   .by_cases m:R.dst=B.name
    .rw[decide_eq_true h1]at d1;rw[decide_eq_true m]at d2;have n:=bP (show eo b A B=(k:Int)from pE D ⟨R,z.out,h1,m⟩ d.out.1);clear h1 m f;go_wp2_with fail;go_quiet (fail);go_wp2_with fail;go_ret;exact⟨dL n.out.symm,by first |exact Go.below_drewN (by rw[d.out.2];exact Go.below_drewN p.out.2.2.2.1 q) _ |(rw[d.out.2];exact Go.below_drewN p.out.2.2.2.1 _)⟩
    .rw[decide_eq_true h1]at d1;rw[decide_eq_false m]at d2;have n:=bP (f (fun h=>m h.2));clear h1 m f;go_wp2_with fail;go_quiet (fail);go_wp2_with fail;exact⟨⟨k+1,by omega,by go_num,n.out,_,by rw[d.out.2,drewN_drewN]⟩,by simp[intOf];omega⟩
   .rw[decide_eq_false h1]at d1;have n:=bP (f (fun h=>h1 h.1));clear h1 f d2;go_wp2_with fail;go_quiet (fail);go_wp2_with fail;exact⟨⟨k+1,by omega,by go_num,n.out,_,by rw[d.out.2,drewN_drewN]⟩,by simp[intOf];omega⟩
  .obtain rfl:k=b.rules.length:=by omega
   have n:=bP (show eo b A B= -1 from pF d.out.1);go_wp2_with fail;go_ret;exact⟨dL n.out.symm,by rw[d.out.2];exact Go.below_drewN p.out.2.2.2.1 q⟩
end
end Go.Proofs.YtmhdgddjeadjjaaGreatDoor
