/- A part of the proof: what the claim reaches. -/
import Derived.Test.YtmhdgddjeadjjaaGreatDoorP00
namespace Go.Proofs.YtmhdgddjeadjjaaGreatDoor
open _root_.List Go.Lib _root_.Nat Go.World _root_.Int Go.Proofs.Tryz
variable {ops:Array Oper}{s:ByteArray}{out:Int}{L:List (List UInt8)}{cls:List Int}{xs:List Value}{B B' base' i k:Nat}{a:Option Addr}{p:Prop}{e:TypeId}{x y:Value}
section
open Go.RowKit
theorem cX {a b:Bool}(h:a=b):Ending.returned (.bool a)= .returned (.bool b):=by rw[h]
theorem dL {k:IntKind}{a b:Int}(h:a=b):Ending.returned (.int k a)= .returned (.int k b):=by rw[h]
theorem fy {b:Bool}[Decidable p](h:b=true↔p):Ending.returned (.bool b)= .returned (.bool (decide p)):=by
 congr 2;rw[Bool.eq_iff_iff];simpa using h
theorem dP [Decidable p](h:p):Ending.returned (.bool true)= .returned (.bool (decide p)):=fy (by simp[h])
theorem cj [Decidable p](h:¬p):Ending.returned (.bool false)= .returned (.bool (decide p)):=fy (by simp[h])
def bl (s:ByteArray):List UInt8:=s.data.toList
theorem b9 (s:ByteArray):(bl s).length=s.size:=by simp[bl]
theorem dU (s:ByteArray)(k:Nat)(h:k<s.size):(bl s)[k]?=some s[k]:=by
 unfold bl;rw[Array.getElem?_toList];exact Array.getElem?_eq_getElem _
theorem cY {t:ByteArray}(h:bl s=bl t):s=t:=by
 cases s;cases t;simpa [bl]using h
theorem jx {α:Type}(l:List α)(p:α->Bool)(k:Nat)(x:α)(h:l[k]?=some x):(l.take (k+1)).all p=((l.take k).all p&&p x):=by
 rw[take_add_one,h];simp
theorem jR {α:Type}(l:List α)(p:α->Bool)(k:Nat)(x:α)(h:l[k]?=some x)(hp:p x=false):l.all p=false:=by
 rw[all_eq_false];exact⟨x,mem_of_getElem? h,by simp[hp]⟩
def b8 (w:World)(B:Nat)(a:Option Addr)(xs:List Value):Prop:=
 0<xs.length->∃b off,a=some ⟨b,off,none⟩/\b<B/\∀i x,xs[i]?=some x->w.cell? ⟨b,off+i,none⟩=some x
theorem b8.keep {w w':World}(h:b8 w B a xs)(hk:∀p:Addr,p.block<B->w'.cell? p=w.cell? p):b8 w' B a xs:=fun g=>by
 obtain⟨b,off,e,c,d⟩:=h g;exact⟨b,off,e,c,fun i x f=>(hk _ c).trans (d i x f)⟩
theorem b8.below {w w':World}(h:b8 w B a xs)(b:Below B' w w')(c:B<=B'):b8 w' B a xs:=
 h.keep fun _ hp=>b.cell (by omega)
theorem b8.alloc {w:World}(h:b8 w B a xs)(b:B<=w.heap.size)(o:Obj):b8 (w.alloc o) B a xs:=
 h.keep fun p hp=>cell?_alloc_lt w o p (by omega)
theorem b8.drewN {w:World}(h:b8 w B a xs)(k:Nat):b8 (w.drewN k) B a xs:=h
theorem b8.more {w:World}(h:b8 w B a xs)(f:B<=B'):b8 w B' a xs:=fun d=>by
 obtain⟨b,off,e,g,c⟩:=h d;exact⟨b,off,e,by omega,c⟩
theorem b8.ah {w:World}{base:Nat}{size n:Nat}{v:Value}(h:w.ownsRow base e size v n xs):
  ∃a c,v= .slice a n c/\xs.length=n*size/\b8 w w.heap.size a xs:=by
 obtain⟨b,h1⟩:=h;rcases h1 with ⟨rfl,rfl⟩ |⟨g,cap,cur,rfl,l,f,_,_,_,k⟩
 .exact⟨none,0,rfl,b,fun j=>by simp at b;simp[b]at j⟩
 .refine⟨_,cap,rfl,b,fun _=>⟨g,0,rfl,(Array.getElem?_eq_some_iff.1 f).1,fun i x d=>?_⟩⟩;rw[cell_of_row w g (0+i) cur e (0,0) f,Nat.zero_add,<-Array.getElem?_toList];rw[<-k,getElem?_take]at d;split at d
  .exact d
  .cases d
def strs (a:List ByteArray):List Value:=a.map Value.string
def nums (a:List Int):List Value:=a.map (Value.int .i64)
theorem qK (a b:List Int):nums (a++b)=nums a++nums b:=by simp[nums]
theorem nh (a b:List ByteArray):strs (a++b)=strs a++strs b:=by simp[strs]
theorem b8.strs {w:World}{c:List ByteArray}(h:b8 w B a (strs c))(j:0<c.length):
  ∃b off,a=some ⟨b,off,none⟩/\b<B/\∀i (h:i<c.length),w.cell? ⟨b,off+i,none⟩=some (.string c[i]):=by
 obtain⟨b,off,e,d,f⟩:=h (by simpa [YtmhdgddjeadjjaaGreatDoor.strs]using j);exact⟨b,off,e,d,fun i g=>f i _ (by simp[YtmhdgddjeadjjaaGreatDoor.strs,g])⟩
theorem b8.nums {w:World}{c:List Int}(h:b8 w B a (nums c))(j:0<c.length):
  ∃b off,a=some ⟨b,off,none⟩/\b<B/\∀i (h:i<c.length),w.cell? ⟨b,off+i,none⟩=some (.int .i64 c[i]):=by
 obtain⟨b,off,e,d,f⟩:=h (by simpa [YtmhdgddjeadjjaaGreatDoor.nums]using j);exact⟨b,off,e,d,fun i g=>f i _ (by simp[YtmhdgddjeadjjaaGreatDoor.nums,g])⟩
def c8 (w:World)(B k:Nat)(a:Option Addr)(rows:List (List Value)):Prop:=
 0<rows.length->∃b off,a=some ⟨b,off,none⟩/\b<B/\∀i r,rows[i]?=some r->∀j x,r[j]?=some x->w.cell? ⟨b,off+i*k+j,none⟩=some x
theorem c8.keep {w w':World}{rows:List (List Value)}(h:c8 w B k a rows)(hk:∀p:Addr,p.block<B->w'.cell? p=w.cell? p):c8 w' B k a rows:=fun l=>by
 obtain⟨b,off,e,c,d⟩:=h l;exact⟨b,off,e,c,fun i r f j x g=>(hk _ c).trans (d i r f j x g)⟩
theorem c8.below {w w':World}{rows:List (List Value)}(h:c8 w B k a rows)(b:Below B' w w')(c:B<=B'):c8 w' B k a rows:=
 h.keep fun _ hp=>b.cell (by omega)
theorem c8.more {w:World}{rows:List (List Value)}(h:c8 w B k a rows)(f:B<=B'):c8 w B' k a rows:=fun d=>by
 obtain⟨b,off,e,g,c⟩:=h d;exact⟨b,off,e,by omega,c⟩
structure Rul where
 src:ByteArray
 dst:ByteArray
 nxt:ByteArray
 fin:Bool
def Rul.cells (r:Rul):List Value:=[.string r.src,.string r.dst,.string r.nxt,.bool r.fin]
structure dj where
 src:ByteArray
 dst:ByteArray
 list:List Rul
def dY (w:World)(B:Nat)(v:Value)(R:dj):Prop:=
 ∃a c,v= .agg #[.string R.src,.string R.dst,.slice a R.list.length c]/\R.src.size<=maxLen/\R.dst.size<=maxLen/\R.list.length<=maxLen/\
  (∀r∈R.list,r.src.size<=maxLen/\r.dst.size<=maxLen/\r.nxt.size<=maxLen)/\c8 w B 4 a (R.list.map Rul.cells)
theorem dY.below {w w':World}{v:Value}{R:dj}(h:dY w B v R)(j:Below B' w w')(i:B<=B'):dY w' B v R:=by
 obtain⟨a,c,e,h1,b,d,f,g⟩:=h;exact⟨a,c,e,h1,b,d,f,g.below j i⟩
theorem dY.more {w:World}{v:Value}{R:dj}(h:dY w B v R)(i:B<=B'):dY w B' v R:=by
 obtain⟨a,c,e,h1,b,d,f,g⟩:=h;exact⟨a,c,e,h1,b,d,f,g.more i⟩
theorem c8.aU {w:World}{l:List Rul}(h:c8 w B 4 a (l.map Rul.cells))(j:0<l.length):
  ∃b off,a=some ⟨b,off,none⟩/\b<B/\∀i (d:i<l.length),w.cell? ⟨b,off+i*4,none⟩=some (.string l[i].src)/\w.cell? ⟨b,off+i*4+1,none⟩=some (.string l[i].dst)/\
   w.cell? ⟨b,off+i*4+2,none⟩=some (.string l[i].nxt)/\w.cell? ⟨b,off+i*4+3,none⟩=some (.bool l[i].fin):=by
 obtain⟨b,off,e,f,g⟩:=h (by simpa using j);refine⟨b,off,e,f,fun i d=>?_⟩;have c:=g i l[i].cells (by simp[d]);exact⟨c 0 _ rfl,c 1 _ rfl,c 2 _ rfl,c 3 _ rfl⟩
structure cr where
 name:ByteArray
 letters:List ByteArray
 small:List Int
def cH (w:World)(B:Nat)(v:Value)(A:cr):Prop:=
 ∃a lc b c,v= .agg #[.string A.name,.slice a A.letters.length lc,.slice b A.small.length c]/\A.name.size<=maxLen/\A.letters.length<=maxLen/\A.small.length<=maxLen/\(∀s∈A.letters,s.size<=maxLen)/\b8 w B a (strs A.letters)/\b8 w B b (nums A.small)
theorem cH.below {w w':World}{v:Value}{A:cr}(h:cH w B v A)(b:Below B' w w')(a:B<=B'):cH w' B v A:=by
 obtain⟨j,lc,k,l,e,h1,c,d,f,g,i⟩:=h;exact⟨j,lc,k,l,e,h1,c,d,f,g.below b a,i.below b a⟩
theorem cH.alloc {w:World}{v:Value}{A:cr}(h:cH w B v A)(a:B<=w.heap.size)(o:Obj):cH (w.alloc o) B v A:=
 h.below (bX.alloc a o) bW
theorem cH.more {w:World}{v:Value}{A:cr}(h:cH w B v A)(a:B<=B'):cH w B' v A:=by
 obtain⟨i,lc,j,k,e,h1,b,c,d,f,g⟩:=h;exact⟨i,lc,j,k,e,h1,b,c,d,f.more a,g.more a⟩
theorem gO {a w:World}(h:Below a.heap.size a w)(row:Option Nat):a.grownBy w row:=⟨h.os,h.tape,h.output,h.size,fun i b _=>h.block i b⟩
theorem cJ {a w:World}{base:Nat}{size n:Nat}{v:Value}(h:a.ownsRow base e size v n xs)(b:Below a.heap.size a w):w.ownsRow base e size v n xs:=
 h.kept (gO b none) (by cases v.ownBlock<;>simp)
theorem fk {w:World}{base:Nat}{size n:Nat}{v:Value}(h:w.ownsRow base e size v n xs):w.drew.ownsRow base e size v n xs:=h
theorem cP {w:World}{base:Nat}{size n:Nat}{v:Value}(h:w.ownsRow base e size v n xs)(c:base'<=base):w.ownsRow base' e size v n xs:=by
 obtain⟨h1,a |⟨g,cap,cur,e,d,b⟩⟩:=h
 .exact⟨h1,.inl a⟩
 .exact⟨h1,.inr ⟨g,cap,cur,e,Nat.le_trans c d,b⟩⟩
def Box (w:World)(b:Nat)(cs:List Value):Prop:=∀j x,cs[j]?=some x->w.cell? ⟨b,j,none⟩=some x
theorem Box.new (w:World)(cs:List Value)(t:TypeId):Box (w.alloc (.cells cs.toArray t)) w.heap.size cs:=fun j x a=>by
 rw[cell_of_row _ _ j _ _ _ (heap_alloc_new w _)];simpa using a
theorem Box.below {w w':World}{b:Nat}{cs:List Value}(h:Box w b cs)(c:Below B w w')(a:b<B):Box w' b cs:=
 fun j x d=>(c.cell (p:=⟨b,j,none⟩) a).trans (h j x d)
theorem Box.alloc {w:World}{b:Nat}{cs:List Value}(h:Box w b cs)(a:b<w.heap.size)(o:Obj):Box (w.alloc o) b cs:=
 h.below ((Below.refl w.heap.size w).alloc bW o) a
theorem Box.c2 {w:World}{b:Nat}(h:Box w b [x,y]):w.cell? ⟨b,0,none⟩=some x/\w.cell? ⟨b,1,none⟩=some y:=⟨h 0 _ rfl,h 1 _ rfl⟩
theorem Box.c3 {w:World}{b:Nat}{z:Value}(h:Box w b [x,y,z]):w.cell? ⟨b,0,none⟩=some x/\w.cell? ⟨b,1,none⟩=some y/\w.cell? ⟨b,2,none⟩=some z:=⟨h 0 _ rfl,h 1 _ rfl,h 2 _ rfl⟩
theorem Box.c4 {w:World}{b:Nat}{z u:Value}(h:Box w b [x,y,z,u]):w.cell? ⟨b,0,none⟩=some x/\w.cell? ⟨b,1,none⟩=some y/\w.cell? ⟨b,2,none⟩=some z/\w.cell? ⟨b,3,none⟩=some u:=⟨h 0 _ rfl,h 1 _ rfl,h 2 _ rfl,h 3 _ rfl⟩
def jG (c:Int):Bool:=decide (97<=c)&&decide (c<=122)||decide (65<=c)&&decide (c<=90)
def si (c:Int):Bool:=decide (48<=c)&&decide (c<=57)
def lN (c:Int):Bool:=jG c||si c||c==95
set_option maxHeartbeats 1000000
theorem sB (c:Int)(w:World):
  Calls prog 85 #[.int .u8 c] w fun e w'=>e= .returned (.bool (jG c))/\w=w':=by
 go_enter func85,ntmps85;go_wp2;all_goals (go_ret;refine⟨cX ?_,rfl⟩;rw[Bool.eq_iff_iff];simp[jG];try omega)
theorem A5 (c:Int)(w:World):
  Calls prog 144 #[.int .u8 c] w fun e w'=>e= .returned (.bool (si c))/\w=w':=by
 go_enter func144,ntmps144;go_wp2;all_goals (go_ret;refine⟨cX ?_,rfl⟩;rw[Bool.eq_iff_iff];simp[si];try omega)
theorem DA (c:Int)(w:World):
  Calls prog 84 #[.int .u8 c] w fun e w'=>e= .returned (.bool (lN c))/\w=w':=by
 go_enter func84,ntmps84;go_wp2_with (first |(go_at_call 85;refine(sB _ _).mono ?_;rintro e w' ⟨rfl,rfl⟩) |(go_at_call 144;refine(A5 _ _).mono ?_;rintro e w' ⟨rfl,rfl⟩));all_goals (go_ret;refine⟨cX ?_,rfl⟩;simp[lN, *])
def df (l:List UInt8):Bool:=l.all (fun c=>lN c.toNat)&&decide (0<l.length)&&decide (l.length<=24)&&jG ((l[0]?.getD 0).toNat)
theorem fL (s:ByteArray)(w:World)(m:s.size<=maxLen):
  Calls prog 47 #[.string s] w fun e w'=>e= .returned (.bool (df (bl s)))/\w=w':=by
 unfold maxLen at m;go_enter func47,ntmps47;go_wp2;go_loop [3] (fun i=>∃k:Nat,k<=s.size/\i= .int .i64 k/\((bl s).take k).all (fun c=>lN c.toNat)=true) (fun i=>s.size-(intOf i).toNat);case atStart=>exact⟨0,zero_le _,rfl,rfl⟩
 case round=>
  obtain⟨k,hk,rfl,a⟩:=hrel;have H:=bP a;clear a;by_cases g:k<s.size
  .have d:=bP (dU s k g);go_wp2_with (go_at_call 84;refine(DA _ _).mono ?_;rintro e w' ⟨rfl,rfl⟩)
   .have h1:(!lN ↑s[k].toNat)=true:=by assumption
    go_ret;refine⟨cX ?_,rfl⟩;rw[df,jR _ _ k _ d.out (by simpa using h1)];rfl
   .have h1:(!lN ↑s[k].toNat)=false:=by assumption
    refine⟨⟨k+1,by omega,by go_num,?_⟩,by simp[intOf];omega⟩;rw[jx _ _ k _ d.out,H.out];simpa using h1
  .have b:k=(bl s).length:=by rw[b9];omega
   have f:=b9 s;have j:=bP b;have l:=bP f;clear b f;go_wp2_with (go_at_call 85;refine(sB _ _).mono ?_;rintro e w' ⟨rfl,rfl⟩);all_goals
    go_ret;refine⟨cX ?_,rfl⟩;have a:=H.out;rw[j.out,take_length]at a;rw[df,a,l.out]
   .have hp:0<s.size:=by assumption
    rw[dU s 0 hp];simp[*];intro _;omega
   .simp;intro;omega
   .simp;intro;omega
def Blk (w:World)(b:Nat)(cs:Array Value)(t:TypeId):Prop:=w.heap[b]?=some (.cells cs t (0,0))
section
variable {w w' : World} {b : Nat} {cs : Array Value} {t : TypeId}
theorem Blk.new (w:World)(cs:Array Value)(t:TypeId):Blk (w.alloc (.cells cs t)) w.heap.size cs t:=heap_alloc_new w _
theorem Blk.lt (h:Blk w b cs t):b<w.heap.size:=(Array.getElem?_eq_some_iff.1 h).1
theorem Blk.cell (h:Blk w b cs t)(i:Nat):w.cell? ⟨b,i,none⟩=cs[i]?:=cell_of_row w b i cs t (0,0) h
theorem Blk.frozen (h:Blk w b cs t)(i:Nat):w.frozen? ⟨b,i,none⟩=false:=by unfold Blk at h;simp[frozen?,h]
theorem Blk.below (h:Blk w b cs t)(c:Below B w w')(a:b<B):Blk w' b cs t:=(c.block b a).trans h
theorem Blk.alloc (h:Blk w b cs t)(o:Obj):Blk (w.alloc o) b cs t:=h.below ((Below.refl w.heap.size w).alloc bW o) h.lt
theorem Blk.drewN (h:Blk w b cs t)(n:Nat):Blk (w.drewN n) b cs t:=h
theorem Blk.aj (h:Blk w b cs t)(i:Nat)(u:Value):Blk (w.setCell ⟨b,i,none⟩ u) b (cs.setIfInBounds i u) t:=by
 unfold Blk at h⊢;simp[setCell,Array.getElem?_modify,h]
theorem Blk.far (h:Blk w b cs t){p:Addr}(hp:b≠p.block)(u:Value):Blk (w.setCell p u) b cs t:=(Below.heap_setCell w p u b hp).trans h
theorem Blk.grown {row:Option Nat}(h:Blk w b cs t)(c:w.grownBy w' row)(a:some b≠row):Blk w' b cs t:=(c.block b h.lt a).trans h
theorem Blk.own_ne {base:Nat}{size n:Nat}{v:Value}(h:Blk w b cs t)(d:w.ownsRow base e size v n xs)(a:e≠t):v.ownBlock≠some b:=by
 rcases d.2 with ⟨rfl,_⟩ |⟨g,cap,cur,rfl,_,c,_⟩
 .simp[Value.ownBlock]
 .intro he;have:g=b:=by simpa [Value.ownBlock]using he
  subst this;unfold Blk at h;rw[c]at h;injection h with h;injection h with _ h;exact a h
end
theorem own_ne {w:World}{base:Nat}{e':TypeId}{size a n j:Nat}{v v':Value}{c:List Value}(h:w.ownsRow base e size v n xs)(d:w.ownsRow base' e' a v' j c)(b:e≠e'):
  v.ownBlock=none\/v.ownBlock≠v'.ownBlock:=by
 rcases h.2 with ⟨rfl,_⟩ |⟨g,cap,cur,rfl,_,i,_⟩
 .exact .inl rfl
 .refine .inr fun he=>?_;have f:Blk w g cur e:=i;exact f.own_ne d (fun e=>b e.symm) (by rw[<-he];rfl)
theorem dK {w w':World}{base:Nat}{e':TypeId}{size a n g:Nat}{v v':Value}{c:List Value}(h:w.ownsRow base e size v n xs)(d:w.ownsRow base' e' a v' g c)(b:e≠e')
  (f:w.grownBy w' v'.ownBlock):w'.ownsRow base e size v n xs:=h.kept f (own_ne h d b)
theorem cV {w:World}{base:Nat}{size n:Nat}{v:Value}(h:w.ownsRow base e size v n xs){p:Addr}(hp:v.ownBlock≠some p.block)(u:Value):(w.setCell p u).ownsRow base e size v n xs:=by
 refine h.kept (row:=some p.block) ⟨rfl,rfl,rfl,by simp[setCell],fun k _ a=>Below.heap_setCell w p u k (fun e=>a (by rw[e]))⟩ ?_;cases b:v.ownBlock with
 |none=>exact .inl rfl
 |some k=>exact .inr (fun e=>hp (by rw[b,e]))
section
variable {P : Program} {Q : Exit → Act → World → Prop} {n l : Nat}
theorem tJ {o:Oper}{a:Act}{next:Act->World->Prop}{r:Result Next}(h:o.upon P a next Q r):o.uponIn (Fence.wide.inRound l) n P a next Q r:=by
 cases r with
 |ok x w=>
  cases x with
  |value v=>exact h
  |skip=>exact h
  |defer d=>exact h
  |enter f args=>
   refine⟨fun e=>(by cases e),?_⟩;have b:=CallsIn.inRound l ((callsIn_wide (n:=n-1)).2 (show Calls P f args w _ from h));exact CallsIn.mono b (fun e w'' he=>by cases e<;>exact he)
  |row r args=>
   refine⟨fun e=>(by cases e),fun c cs _=>?_⟩;obtain⟨v,w',g,i⟩:=(show Rows P r args w _ from h) c cs;exact⟨v,w',g,stepsIn_wide.2 i⟩
  |_=>exact(show False from h).elim
 |halt x w=>cases x<;>exact h
theorem jg {md:Region.Mode}(d:∀(i:Nat) (o:Oper),ops[i]?=some o->∀c,o.op≠.defer c)(b:¬LetsOut Q):
  ∀(fuel:Nat) (listed:Array Bool) (a:Act) (w:World),wpAny P md ops Q fuel listed a w->wpAnyIn (Fence.wide.inRound l) n P md ops Q fuel listed a w
 |0,_,_,_,h=>h
 |fuel+1,listed,a,w,h=>⟨h.1,fun i j=>by
  have h1:=h.2 i j;unfold wpOp at h1;unfold wpOpIn;cases e:ops[i]? with
  |none=>rw[e]at h1;exact jg d b fuel _ _ _ h1
  |some o=>
   rw[e]at h1;simp only at h1⊢;by_cases hw:Region.wanted o (yielded ops a.tmps)=true
   .rw[if_pos hw]at h1⊢;rcases h1 with h1 |h1
    .refine⟨fun _ _=>trivial,?_⟩;rw[show(o.semAt (Fence.wide.inRound l).round a.eval)=execOp a.eval o from Oper.semAt_eq _ _ _ (d i o e)];exact tJ (Oper.wp_mono (fun f w' g=>jg d b fuel _ f w' g) h1)
    .exact absurd h1.2 b
   .rw[if_neg hw]at h1⊢;exact⟨fun _ _=>trivial,jg d b fuel _ _ _ h1⟩⟩
def xh (ops:Array Oper):Bool:=ops.toList.all fun o=>match o.op with | .defer _=>false |_=>true
theorem xj (h:xh ops=true):∀(i:Nat) (o:Oper),ops[i]?=some o->∀c,o.op≠.defer c:=by
 intro i o a c e;have h1:=all_eq_true.1 h o (by rw[<-Array.getElem?_toList]at a;exact mem_of_getElem? a);rw[e]at h1;cases h1
theorem jE {id:Nat}{S:World->Prop}{a:Act}{w:World}(hm:P.follows .mixedOrders=true)(c:xh ops=true)(b:¬LetsOut Q)
  (h:wpAnyH P .any ops Q S ops.size (Array.replicate ops.size false) a w.drew):(Code.region id ops true).wpIn (Fence.wide.inRound l) n P Q a w:=
 wpIn_region_any hm (jg (xj c) b _ _ _ _ (wpAny_of_held _ _ _ _ h))
end
end
section
open Go.RowKit Classical
set_option maxRecDepth 100000
set_option maxHeartbeats 1000000
theorem pd (a b:Arc)(w:World):
  Calls prog 178 #[.agg #[.int .i64 a.frm,.int .i64 a.inp,.int .i64 a.out,.int .i64 a.to],.agg #[.int .i64 b.frm,.int .i64 b.inp,.int .i64 b.out,.int .i64 b.to]] w
   fun e w'=>e= .returned (.bool (decide (a.lt b)))/\Below w.heap.size w w':=by
 go_enter func178,ntmps178;go_wp2;all_goals
  go_ret;refine⟨fy ?_,(bX.alloc bW _).alloc (by simp) _⟩;simp only[bne_iff_ne,ne_eq,bne_eq_false_iff_eq]at *;unfold Arc.lt;simp;omega
theorem pf (a b:Arc)(h:a.lt b)(w:World):
  Calls prog 178 #[.agg #[.int .i64 a.frm,.int .i64 a.inp,.int .i64 a.out,.int .i64 a.to],.agg #[.int .i64 b.frm,.int .i64 b.inp,.int .i64 b.out,.int .i64 b.to]] w
   fun e w'=>e= .returned (.bool true)/\Below w.heap.size w w':=
 (pd a b w).mono fun _ _ c=>⟨by rw[c.1,decide_eq_true h],c.2⟩
theorem qz (a b:Arc)(h:¬a.lt b)(w:World):
  Calls prog 178 #[.agg #[.int .i64 a.frm,.int .i64 a.inp,.int .i64 a.out,.int .i64 a.to],.agg #[.int .i64 b.frm,.int .i64 b.inp,.int .i64 b.out,.int .i64 b.to]] w
   fun e w'=>e= .returned (.bool false)/\Below w.heap.size w w':=
 (pd a b w).mono fun _ _ c=>⟨by rw[c.1,decide_eq_false h],c.2⟩
theorem tv (x y:Arc)(w:World):(binOp .eql 171 (.agg #[.int .i64 x.frm,.int .i64 x.inp,.int .i64 x.out,.int .i64 x.to]) (.agg #[.int .i64 y.frm,.int .i64 y.inp,.int .i64 y.out,.int .i64 y.to])).run prog w= .ok (.bool (decide (x=y))) w:=by
 have m:prog.underlying 171=some (.struct (prog.fieldsOf 171)):=by kernel_rfl
 have hp:prog.stoodInHeld 171=false:=by kernel_rfl
 rw[run_eql_struct,show(10000:Nat)=9999+1 from rfl,run_equalIn_agg w 9999 171 _ _ m hp];simp only[Program.fieldsOf,underlying171];go_simp;obtain⟨a,b,c,d⟩:=x;obtain⟨e,f,g,i⟩:=y;simp only[Arc.mk.injEq];by_cases h1:a=e<;>by_cases j:b=f<;>by_cases k:c=g<;>by_cases l:d=i<;>simp[h1,j,k,l]
theorem Ea (x y:Arc)(w:World):(binOp .neq 171 (.agg #[.int .i64 x.frm,.int .i64 x.inp,.int .i64 x.out,.int .i64 x.to]) (.agg #[.int .i64 y.frm,.int .i64 y.inp,.int .i64 y.out,.int .i64 y.to])).run prog w= .ok (.bool (!decide (x=y))) w:=by
 have m:prog.underlying 171=some (.struct (prog.fieldsOf 171)):=by kernel_rfl
 have hp:prog.stoodInHeld 171=false:=by kernel_rfl
 rw[run_neq_struct,show(10000:Nat)=9999+1 from rfl,run_equalIn_agg w 9999 171 _ _ m hp];simp only[Program.fieldsOf,underlying171];go_simp;obtain⟨a,b,c,d⟩:=x;obtain⟨e,f,g,i⟩:=y;simp only[Arc.mk.injEq];by_cases h1:a=e<;>by_cases j:b=f<;>by_cases k:c=g<;>by_cases l:d=i<;>simp[h1,j,k,l]
theorem pJ (op:BinOp)(a b:Operand)(x y:Array Value)(w:World):(eqGuard op 171 a b (.agg x) (.agg y)).run prog w= .ok () w:=
 run_eqGuard_agg w op _ a b x y (by kernel_rfl)
theorem mn:(prog.info? 171).map (fun i=>(i.zero,i.size,i.bytes))=some (some (.agg #[.int .i64 0,.int .i64 0,.int .i64 0,.int .i64 0]),4,32):=by kernel_rfl
theorem b8.arcs {w:World}{l:List Arc}(h:b8 w B a (flat l))(m:0<l.length):
  ∃b off,a=some ⟨b,off,none⟩/\b<B/\∀i (d:i<l.length),w.cell? ⟨b,off+i*4,none⟩=some (.int .i64 l[i].frm)/\w.cell? ⟨b,off+i*4+1,none⟩=some (.int .i64 l[i].inp)/\
   w.cell? ⟨b,off+i*4+2,none⟩=some (.int .i64 l[i].out)/\w.cell? ⟨b,off+i*4+3,none⟩=some (.int .i64 l[i].to):=by
 obtain⟨b,off,e,k,c⟩:=h (by rw[cT];omega);refine⟨b,off,e,k,fun i d=>?_⟩;obtain⟨f,h1,g,j⟩:=wN l i l[i] (getElem?_eq_getElem d);exact⟨c _ _ f,c _ _ h1,c _ _ g,c _ _ j⟩
def nI (A:cr):Prop:=
 (∀i l,i<70->A.letters[i]?=some l->l.size<=20)/\A.letters.length<=70/\A.small.length<=70/\A.name.size<=100
theorem pD (v:Value)(A:cr)(w:World)(h:cH w w.heap.size v A):
  Calls prog 50 #[v] w fun e w'=>e= .returned (.bool (decide (nI A)))/\Below w.heap.size w w':=by
 obtain⟨x,lc,y,z,rfl,p,m,n,s,a,u⟩:=h;unfold maxLen at m n p;go_enter func50,ntmps50;go_wp2;go_loop [3] (fun i=>∃k:Nat,k<=A.letters.length/\k<=70/\i= .int .i64 k/\(∀i l,i<k->A.letters[i]?=some l->l.size<=20)) (fun i=>A.letters.length-(intOf i).toNat);case atStart=>exact⟨0,zero_le _,by omega,rfl,by simp⟩
 case round=>
  obtain⟨k,hk,r,rfl,d⟩:=hrel;have H:=bP d;clear d;by_cases c:k<A.letters.length/\k<70
  .obtain⟨c,o⟩:=c;obtain⟨b,off,rfl,t,g⟩:=a.strs (by omega);have q:=g k c;clear g a;go_wp2
   .have h1:(20:Int)<↑A.letters[k].size:=by assumption
    go_ret;refine⟨cj fun f=>?_,bX.alloc bW _⟩;have:=f.1 k _ o (getElem?_eq_getElem c);omega
   .refine⟨⟨k+1,by omega,by omega,by go_num,fun i l j a=>?_⟩,by simp[intOf];omega⟩;rcases Nat.lt_succ_iff_lt_or_eq.1 j with h |rfl
    .exact H.out i l h a
    .rw[getElem?_eq_getElem c]at a;obtain rfl:=Option.some.inj a;omega
  .go_wp2
   .have:(70:Int)<A.letters.length:=by assumption
    go_ret;exact⟨cj fun f=>by have:=f.2.1;omega,bX.alloc bW _⟩
   .go_ret;refine⟨fy ?_,bX.alloc bW _⟩;rw[nI,decide_eq_true_iff];exact⟨fun h=>⟨fun i l j a=>H.out i l (by have:=(List.getElem?_eq_some_iff.1 a).1;omega) a,by omega,by omega,by omega⟩,fun h=>by omega⟩
   .go_ret;exact⟨cj fun f=>by have:=f.2.2.1;omega,bX.alloc bW _⟩
theorem yi (s t:ByteArray):((s.extract 0 t.size).toList==t.toList)=true↔bl t<+:bl s:=by
 rw[ByteArray.toList_eq,ByteArray.toList_eq,extract_data,beq_iff_eq,drop_zero,Nat.sub_zero];unfold bl;have a:t.size=t.data.toList.length:=by simp
 rw[a];constructor
 .intro e;exact e▸take_prefix _ _
 .intro e;exact kD e
theorem me (s t:ByteArray)(w:World):
  Calls prog 140 #[.string s,.string t] w fun e w'=>e= .returned (.bool (decide (bl t<+:bl s)))/\w=w':=by
 go_enter func140,ntmps140;go_wp2
 .have h:t.size<=s.size:=by assumption
  go_ret;exact⟨fy (yi s t),rfl⟩
 .have h:¬t.size<=s.size:=by assumption
  go_ret;refine⟨cj fun a=>h ?_,rfl⟩;have:=a.length_le;rwa [b9,b9]at this
theorem jU (s t:ByteArray)(h:bl t<+:bl s)(w:World):
  Calls prog 140 #[.string s,.string t] w fun e w'=>e= .returned (.bool true)/\w'=w:=
 (me s t w).mono fun _ _ a=>⟨by rw[a.1,decide_eq_true h],a.2.symm⟩
theorem mU (s t:ByteArray)(h:¬bl t<+:bl s)(w:World):
  Calls prog 140 #[.string s,.string t] w fun e w'=>e= .returned (.bool false)/\w'=w:=
 (me s t w).mono fun _ _ a=>⟨by rw[a.1,decide_eq_false h],a.2.symm⟩
def cr.bls (A:cr):List (List UInt8):=A.letters.map bl
theorem uY (A:cr)(C:∀l∈A.letters,1<=l.size):∀(n:Nat) (s:ByteArray),s.size<n->s.size<=maxLen->∀(v:Value) (w:World),cH w w.heap.size v A->
  Calls prog 141 #[v,.string s] w fun e w'=>e= .returned (.bool (decide (eT A.bls (bl s))))/\Below w.heap.size w w':=by
 intro n;induction n with
 |zero=>intro s h;omega
 |succ n P=>
 intro s ae Z v w h;have T:=h;obtain⟨Q,lc,D,E,rfl,X,L,M,ab,V,ad⟩:=h;have S:=bP P;clear P;unfold maxLen at Z L M X;go_enter func141,ntmps141;go_wp2_with fail;obtain⟨o,d⟩:∃o:World,o=(w.alloc (.cells #[.string A.name,.slice Q A.letters.length lc,.slice D A.small.length E] 83)):=⟨_,rfl⟩;rw[<-d];go_loopw [5] (fun i wr=>∃k:Nat,k<=A.letters.length/\i= .int .i64 k/\(∀i l,i<k->A.letters[i]?=some l->¬(bl s<+:bl l\/bl l<+:bl s/\eT A.bls ((bl s).drop l.size)))/\Below o.heap.size o wr) (fun i _=>A.letters.length-(intOf i).toNat);case atStart=>exact⟨0,zero_le _,rfl,by simp,bX⟩
 case round=>
  obtain⟨k,hk,rfl,t,c⟩:=hrel;have j:o.heap.size=w.heap.size+1:=by rw[d];simp
  have c0:wr.cell? ⟨w.heap.size,0,none⟩=some (.string A.name):=(c.cell (p:=⟨w.heap.size,0,none⟩) (by simp[j])).trans (by rw[d];simp);have c1:wr.cell? ⟨w.heap.size,1,none⟩=some (.slice Q A.letters.length lc):=(c.cell (p:=⟨w.heap.size,1,none⟩) (by simp[j])).trans (by rw[d];simp);have c2:wr.cell? ⟨w.heap.size,2,none⟩=some (.slice D A.small.length E):=(c.cell (p:=⟨w.heap.size,2,none⟩) (by simp[j])).trans (by rw[d];simp);have N:Below w.heap.size w o:=by rw[d];exact bX.alloc bW _
  have g:Below w.heap.size w wr:=N.trans (c.mono (by omega));have y:w.heap.size<=wr.heap.size:=g.size;have H:=bP t;clear t;by_cases f:k<A.letters.length
  .have x:bl A.letters[k]∈A.bls:=mem_map_of_mem (getElem_mem f);obtain⟨b,off,rfl,U,I⟩:=V.strs (by omega);have c3:wr.cell? ⟨b,off+k,none⟩=some (.string A.letters[k]):=((c.cell (p:=⟨b,off+k,none⟩) (by simp[j];omega)).trans (by rw[d];exact cell?_alloc_lt _ _ _ U)).trans (I k f);clear I;go_wp2_with (go_at_call 140;refine(me _ _ _).mono ?_;rintro e w' ⟨rfl,rfl⟩)
   .have h1:bl s<+:bl A.letters[k]:=by assumption
    go_ret;exact⟨dP ((fp _ _).2 ⟨_,x,.inl h1⟩),g⟩
   .have h1:¬bl s<+:bl A.letters[k]:=by assumption
    by_cases hp:bl A.letters[k]<+:bl s
    .have hle:A.letters[k].size<=s.size:=by have:=hp.length_le;rwa [b9,b9]at this
     refine wp_region_still_tail 17 (by kernel_rfl) (by kernel_rfl) ?_;simp only[take_succ_cons,take_zero,drop_succ_cons,drop_zero];repeat (first |still_step |still_call (jU _ _ hp _))
     refine wpStill_nil ?_;change wpList _ _ _ _ _ wr.drew;have R:=C _ (getElem_mem f);have hx:(s.extract A.letters[k].size s.size).size<n:=by simp;omega
     have O:(s.extract A.letters[k].size s.size).size<=maxLen:=by unfold maxLen;simp;omega
     have G:cH wr.drew wr.drew.heap.size (.agg #[.string A.name,.slice (some ⟨b,off,none⟩) A.letters.length lc,.slice D A.small.length E]) A:=
      (T.below g.drew bW).more y
     have B:bl (s.extract A.letters[k].size s.size)=(bl s).drop A.letters[k].size:=by
      unfold bl;rw[extract_data,take_of_length_le (by simp)]
     have F:=bP B;clear B;go_wp2_with fail;refine(S.out _ hx O _ _ G).mono ?_;rintro e w1 ⟨rfl,z⟩;rw[F.out];by_cases q:eT A.bls ((bl s).drop A.letters[k].size)
     .rw[decide_eq_true q];go_wp2;go_ret;exact⟨dP ((fp _ _).2 ⟨_,x,.inr ⟨_,ia.2 ⟨hp,rfl⟩,by rw[b9];exact q⟩⟩),g.drew.trans (z.mono y)⟩
     .rw[decide_eq_false q];go_wp2;refine⟨⟨k+1,by omega,by go_num,fun i l u a=>?_,c.drew.trans (z.mono c.size)⟩,by simp[intOf];omega⟩;rcases Nat.lt_succ_iff_lt_or_eq.1 u with h |rfl
      .exact H.out i l h a
      .rw[getElem?_eq_getElem f]at a;obtain rfl:=Option.some.inj a;rintro(h |h)
       .exact h1 h
       .exact q h.2
    .go_quiet ((go_at_call 140;exact Calls.quiet_of_same (mU _ _ hp _)));go_wp2;refine⟨⟨k+1,by omega,by go_num,fun i l u a=>?_,Go.below_drewN c _⟩,by simp[intOf];omega⟩;rcases Nat.lt_succ_iff_lt_or_eq.1 u with h |rfl
     .exact H.out i l h a
     .rw[getElem?_eq_getElem f]at a;obtain rfl:=Option.some.inj a;rintro(h |h)
      .exact h1 h
      .exact hp h.1
  .go_wp2;go_ret;refine⟨cj fun q=>?_,g⟩;obtain⟨l,a,h⟩:=(fp _ _).1 q;obtain⟨m,hm,rfl⟩:=mem_map.1 a;obtain⟨i,u,J⟩:=getElem_of_mem hm;refine H.out i m (by omega) (by rw[getElem?_eq_getElem u,J]) ?_;rcases h with h |⟨r,Y,h⟩
   .exact .inl h
   .obtain⟨h1,rfl⟩:=ia.1 Y;rw[b9]at h;exact .inr ⟨h1,h⟩
theorem lr (s:ByteArray)(k:Nat):bl (s.extract k s.size)=(bl s).drop k:=by
 unfold bl;rw[extract_data,take_of_length_le (by simp)]
def iY (L:List (List UInt8))(t:List UInt8)(k:Nat)(out:Int):Prop:=
 (out= -1/\∀i l,i<k->L[i]?=some l->¬l<+:t)\/
 (∃j l,j<k/\out=(j:Int)/\L[j]?=some l/\l<+:t/\∀i m,i<k->L[i]?=some m->m<+:t->m.length<=l.length)
theorem iY.done {t:List UInt8}(g:L.Nodup)(k:∀l∈L,1<=l.length/\l.length<=3)(h:iY L t L.length out):out=atI L t:=by
 unfold atI atF;rcases h with ⟨rfl,h⟩ |⟨j,l,_,rfl,b,hp,f⟩
 .rw[CG];intro l c hp;obtain⟨i,a,rfl⟩:=getElem_of_mem c;exact h i _ a (getElem?_eq_getElem a) hp
 .have hm:=k l (mem_of_getElem? b);rw[vN L g t j l b hp (fun m d e=>?_) hm.1 3 hm.2];obtain⟨i,a,rfl⟩:=getElem_of_mem d;exact f i _ a (getElem?_eq_getElem a) e
theorem iY.skip {t:List UInt8}{l:List UInt8}(h:iY L t k out)(hk:L[k]?=some l)(hp:¬l<+:t):iY L t (k+1) out:=by
 rcases h with ⟨e,h⟩ |⟨j,m,g,e,hm,d,f⟩
 .refine .inl ⟨e,fun i x a b=>?_⟩;rcases Nat.lt_succ_iff_lt_or_eq.1 a with a |rfl
  .exact h i x a b
  .rw[hk]at b;obtain rfl:=Option.some.inj b;exact hp
 .refine .inr ⟨j,m,by omega,e,hm,d,fun i x a b c=>?_⟩;rcases Nat.lt_succ_iff_lt_or_eq.1 a with a |rfl
  .exact f i x a b c
  .rw[hk]at b;obtain rfl:=Option.some.inj b;exact absurd c hp
theorem iY.keep {t:List UInt8}{j:Nat}{l m:List UInt8}(h:iY L t k (j:Int))(hk:L[k]?=some l)(c:L[j]?=some m)(hle:l.length<=m.length):iY L t (k+1) (j:Int):=by
 rcases h with ⟨e,h⟩ |⟨n,p,o,e,hm,d,g⟩
 .omega
 .obtain rfl:j=n:=by omega
  rw[c]at hm;obtain rfl:=Option.some.inj hm;refine .inr ⟨j,m,by omega,rfl,c,d,fun i x a b f=>?_⟩;rcases Nat.lt_succ_iff_lt_or_eq.1 a with a |rfl
  .exact g i x a b f
  .rw[hk]at b;obtain rfl:=Option.some.inj b;exact hle
theorem iY.take {t:List UInt8}{l:List UInt8}(h:iY L t k out)(hk:L[k]?=some l)(hp:l<+:t)(d:∀(j:Nat) (m:List UInt8),out=(j:Int)->L[j]?=some m->m.length<l.length):
  iY L t (k+1) (k:Int):=by
 refine .inr ⟨k,l,by omega,rfl,hk,hp,fun i x a b c=>?_⟩;rcases Nat.lt_succ_iff_lt_or_eq.1 a with a |rfl
 .rcases h with ⟨e,h⟩ |⟨p,q,g,e,hm,n,f⟩
  .exact absurd c (h i x a b)
  .have h1:=f i x a b c;have o:=d _ _ e hm;omega
 .rw[hk]at b;obtain rfl:=Option.some.inj b;omega
theorem r6 (A:cr):A.bls.length=A.letters.length:=by simp[cr.bls]
theorem ny {A:cr}(h:k<A.letters.length):A.bls[k]?=some (bl A.letters[k]):=by simp[cr.bls,h]
def dJ (c:Nat):Int:=
 if 97<=c/\c<=122\/65<=c/\c<=90 then 3 else if 48<=c/\c<=57 then 4 else if c=95 then 5 else if c=32\/c=9\/c=10 then 1 else if c=35 then 2 else if c=34 then 6
 else if c=33 then 7 else if c=60\/c=62 then 8 else if [59,44,46,58,40,41,91,93,123,125,61,43,45].contains c then 9 else 0
def dt (l:List UInt8)(i:Nat):Int:=match l[i]? with
 |some c=>dJ c.toNat
 |none=>0
structure gM (w:World)(b:Nat)(s:ByteArray):Prop where
 text:w.cell? ⟨b,0,none⟩=some (.string s)
 cls:∀c,c<256->w.cell? ⟨b,1+c,none⟩=some (.int .i64 (dJ c))
theorem gM.below {w w':World}{b:Nat}(h:gM w b s)(d:Below B w w')(a:b<B):gM w' b s:=
 ⟨(d.cell (p:=⟨b,0,none⟩) a).trans h.text,fun c e=>(d.cell (p:=⟨b,1+c,none⟩) a).trans (h.cls c e)⟩
theorem gM.drewN {w:World}{b:Nat}(h:gM w b s)(n:Nat):gM (w.drewN n) b s:=⟨h.text,h.cls⟩
theorem nw (b:Nat)(s:ByteArray)(i:Nat)(_hs:s.size<=maxLen)(w:World)(h:gM w b s):
  Calls prog 187 #[.pointer (some ⟨b,0,none⟩),.int .i64 i] w fun e w'=>e= .returned (.int .i64 (dt (bl s) i))/\∃q,w'=w.drewN q:=by
 unfold maxLen at _hs;have j:=h.text;go_enter func187,ntmps187;by_cases f:i<s.size
 .have c:s[i].toNat<256:=s[i].toNat_lt;have g:=h.cls s[i].toNat c;have a:=bP (dU s i f);go_wp2_with fail;go_quiet (fail);go_wp2;go_ret;exact⟨dL (by rw[dt,a.out]),_,rfl⟩
 .have a:(bl s)[i]?=none:=getElem?_eq_none (by rw[b9];omega);have d:=bP a;clear a;go_wp2;go_ret;exact⟨dL (by rw[dt,d.out]),0,rfl⟩
def pK (a:List Int)(x:Int):Int:=if x∈a then (a.idxOf x:Nat) else -1
theorem D3 {b:List Int}{x:Int}(h:b[k]?=some x)(f:∀(j:Nat) y,j<k->b[j]?=some y->y≠x):pK b x=k:=by
 have hm:=mem_of_getElem? h;rw[pK,if_pos hm];congr 1;have h1:b.idxOf x<b.length:=idxOf_lt_length_of_mem hm;have e:b[b.idxOf x]?=some x:=by rw[getElem?_eq_getElem h1,getElem_idxOf]
 rcases Nat.lt_trichotomy (b.idxOf x) k with d |heq |i
 .exact absurd rfl (f _ _ d e)
 .exact heq
 .exfalso;have:∀(l:List Int) (k:Nat),l[k]?=some x->l.idxOf x<=k:=by
   intro l;induction l with
   |nil=>intro k h;simp at h
   |cons a l g=>
    intro k h;rw[idxOf_cons];cases c:a==x with
    |true=>simp
    |false=>
     cases k with
     |zero=>simp at h;simp[h]at c
     |succ k=>rw[getElem?_cons_succ]at h;have:=g k h;simp;omega
  have:=this b k h;omega
theorem vB (b:List Int)(a:Option Addr)(c:Nat)(x:Int)(B:Nat)(s:b.length<=maxLen)(w:World)(h:b8 w B a (nums b)):
  Calls prog 246 #[.slice a b.length c,.int .i64 x] w fun e w'=>e= .returned (.int .i64 (pK b x))/\w'=w:=by
 unfold maxLen at s;go_enter func246,ntmps246;go_wp2_with fail;go_loop [8] (fun i=>∃k:Nat,k<=b.length/\i= .int .i64 k/\(∀(j:Nat) y,j<k->b[j]?=some y->y≠x)) (fun i=>b.length-(intOf i).toNat);case atStart=>exact⟨0,zero_le _,rfl,by simp⟩
 case round=>
  obtain⟨k,hk,rfl,m⟩:=hrel;have d:=bP m;clear m;by_cases l:k<b.length
  .obtain⟨g,o,rfl,t,q⟩:=h.nums (by omega);have c0:=q k l;clear q;by_cases he:b[k]=x
   .have d1:(x==b[k])=true:=by simp[he]
    have n:=bP he;clear he;go_wp2;go_ret;exact⟨dL (D3 (by rw[getElem?_eq_getElem l,n.out]) d.out).symm,rfl⟩
   .have d1:(x==b[k])=false:=by simp[Ne.symm he]
    have n:=bP he;clear he;go_wp2;refine⟨⟨k+1,by omega,by go_num,fun j y f p=>?_⟩,by simp[intOf];omega⟩;rcases Nat.lt_succ_iff_lt_or_eq.1 f with f |rfl
    .exact d.out j y f p
    .rw[getElem?_eq_getElem l]at p;obtain rfl:=Option.some.inj p;exact n.out
  .go_wp2;go_ret;refine⟨dL ?_,rfl⟩;rw[pK,if_neg];intro hm;obtain⟨j,f,r⟩:=getElem_of_mem hm;exact d.out j _ (by omega) (getElem?_eq_getElem f) r
theorem rS (b:List Int)(a:Option Addr)(c:Nat)(x:Int)(B:Nat)(g:b.length<=maxLen)(w:World)(h:b8 w B a (nums b)):
  Calls prog 216 #[.slice a b.length c,.int .i64 x] w fun e w'=>e= .returned (.bool (b.contains x))/\w'=w:=by
 go_enter func216,ntmps216;go_wp2_with fail;refine(vB b a c x B g w h).mono ?_;rintro e i ⟨rfl,rfl⟩;by_cases hm:x∈b
 .have d:pK b x=((b.idxOf x:Nat):Int):=by rw[pK,if_pos hm]
  have f:b.contains x=true:=by simpa using hm
  rw[d];have E:=bP f;clear d f;go_wp2;go_ret;exact⟨cX (by rw[E.out]),rfl⟩
 .have d:pK b x= -1:=by rw[pK,if_neg hm]
  have f:b.contains x=false:=by rw[<-Bool.not_eq_true];simpa using hm
  rw[d];have E:=bP f;clear d f;go_wp2;go_ret;exact⟨cX (by rw[E.out]),rfl⟩
def dn (l:List UInt8)(cls:List Int)(i:Nat):Nat:=i+((l.drop i).takeWhile fun c=>cls.contains (dJ c.toNat)).length
theorem ni {l:List UInt8}{c:UInt8}(h:l[i]?=some c)(a:cls.contains (dJ c.toNat)=true):dn l cls i=dn l cls (i+1):=by
 obtain⟨b,rfl⟩:=List.getElem?_eq_some_iff.1 h;unfold dn;rw[drop_eq_getElem_cons b,takeWhile_cons,if_pos a];simp;omega
theorem qU {l:List UInt8}{c:UInt8}(h:l[i]?=some c)(a:cls.contains (dJ c.toNat)=false):dn l cls i=i:=by
 obtain⟨b,rfl⟩:=List.getElem?_eq_some_iff.1 h;unfold dn;rw[drop_eq_getElem_cons b,takeWhile_cons,if_neg (by rw[a];simp)];rfl
theorem td {l:List UInt8}(h:l.length<=i):dn l cls i=i:=by
 unfold dn;rw[drop_of_length_le h];rfl
theorem uN (b:Nat)(s:ByteArray)(i:Nat)(cls:List Int)(f:Option Addr)(g:Nat)(j:cls.length<=maxLen)(p:i<=s.size)(m:s.size<=maxLen)(w:World)(h:gM w b s)(B:Nat)(o:b8 w B f (nums cls)):
  Calls prog 186 #[.pointer (some ⟨b,0,none⟩),.int .i64 i,.slice f cls.length g] w fun e w'=>e= .returned (.int .i64 (dn (bl s) cls i))/\∃q,w'=w.drewN q:=by
 have n:=m;unfold maxLen at n;go_enter func186,ntmps186;go_wp2_with fail;go_loopw [1] (fun c1 wr=>∃k:Nat,k<=s.size/\c1= .int .i64 k/\dn (bl s) cls i=dn (bl s) cls k/\∃q,wr=w.drewN q) (fun c1 _=>s.size-(intOf c1).toNat);case atStart=>exact⟨i,p,rfl,rfl,0,rfl⟩
 case round=>
  obtain⟨k,hk,rfl,hw,q,rfl⟩:=hrel;have d:=bP hw;have t:=(h.drewN q).text;clear hw;by_cases l:k<s.size
  .have c:=bP (dU s k l);go_wp2_with (first
    |(go_at_call 187;refine(nw b s k m _ (h.drewN q)).mono ?_;rintro e r ⟨rfl,q1,rfl⟩)
    |(go_at_call 216;refine(rS cls f g _ B j _ (o.drewN _)).mono ?_;rintro e r ⟨rfl,rfl⟩))
   case roundEnd=>
    rename_i hm;have a:cls.contains (dJ s[k].toNat)=true:=by
     rw[dt,c.out]at hm;simpa using hm
    exact⟨⟨k+1,by omega,by go_num,by rw[d.out,ni c.out a],_,rfl⟩,by simp[intOf];omega⟩
   all_goals (
    rename_i hm;have a:cls.contains (dJ s[k].toNat)=false:=by
     rw[dt,c.out]at hm;rw[<-Bool.not_eq_true];simpa using hm
    go_ret;exact⟨dL (by rw[d.out,qU c.out a]),_,rfl⟩)
  .go_wp2;go_ret;exact⟨dL (by rw[d.out,td (by rw[b9];omega)]),q,rfl⟩
def gv (g:List Int):Array Value:=(g.map (Value.int .i64)).toArray
def dV (g:List Int)(s:List UInt8)(c:Int):List Int:=s.foldl (fun g b=>g.set b.toNat c) g
theorem eF (s:List UInt8)(c:Int):∀g:List Int,(dV g s c).length=g.length:=by
 induction s with
 |nil=>intro g;rfl
 |cons a s b=>intro g;show(dV (g.set a.toNat c) s c).length=_;rw[b];simp
theorem yz (g:List Int)(s:List UInt8)(a:UInt8)(c:Int):dV g (s++[a]) c=(dV g s c).set a.toNat c:=by
 simp[dV]
theorem zx (g:List Int)(i:Nat)(c:Int):(gv g).setIfInBounds i (.int .i64 c)=gv (g.set i c):=by
 simp[gv]
theorem r9 (g:List Int)(i:Nat)(h:i<g.length):(gv g)[i]?=some (.int .i64 g[i]):=by
 simp[gv,h]
theorem je (b:Nat)(g:List Int)(o:g.length=256)(s:ByteArray)(p:s.size<=maxLen)(c:Int)(w:World)(h:Blk w b (gv g) 188):
  Calls prog 185 #[.string s,.int .i64 c,.pointer (some ⟨b,0,none⟩)] w fun e w'=>e= .returned (.tuple #[])/\Blk w' b (gv (dV g (bl s) c)) 188/\Below b w w':=by
 unfold maxLen at p;go_enter func185,ntmps185;go_wp2_with fail;go_loopw [5] (fun c1 wr=>∃k:Nat,k<=s.size/\c1= .int .i64 k/\Blk wr b (gv (dV g ((bl s).take k) c)) 188/\Below b w wr) (fun c1 _=>s.size-(intOf c1).toNat);case atStart=>exact⟨0,zero_le _,rfl,h,bX⟩
 case round=>
  obtain⟨k,hk,rfl,a,hw⟩:=hrel;obtain⟨G,d⟩:∃G,dV g ((bl s).take k) c=G:=⟨_,rfl⟩;have q:G.length=256:=by rw[<-d,eF,o]
  rw[d]at a;have i:=bP d;have j:=bP a;clear d;by_cases m:k<s.size
  .have r:s[k].toNat<256:=s[k].toNat_lt;have l:=a.cell s[k].toNat;rw[r9 G _ (by omega)]at l;have t:=a.frozen s[k].toNat;have f:=dU s k m;have n:Hid (dV g ((bl s).take (k+1)) c=G.set s[k].toNat c):=bP (by
    rw[take_add_one,f,<-i.out];exact yz _ _ _ _)
   clear f a;go_wp2;refine⟨⟨k+1,by omega,by go_num,?_,hw.setCell bW _⟩,by simp[intOf];omega⟩;rw[n.out,<-zx];exact j.out.aj _ _
  .clear a;obtain rfl:k=s.size:=by omega
   go_wp2;refine bodyPost_end (v:= .tuple #[]) (by simp[results,results185,go_sem]) rfl ?_;refine⟨rfl,?_,hw⟩;have:=j.out;rw[<-i.out,take_of_length_le (by rw[b9];exact bW)]at this;exact this
def pq:List Int:=(range 256).map dJ
def w1L:List UInt8:=[97,98,99,100,101,102,103,104,105,106,107,108,109,110,111,112,113,114,115,116,117,118,119,120,121,122,65,66,67,68,69,70,71,72,73,74,75,76,77,78,79,80,81,82,83,84,85,86,87,88,89,90]
theorem xY:dV (dV (dV (dV (dV (dV (dV (dV (dV (replicate 256 0) w1L 3) [48,49,50,51,52,53,54,55,56,57] 4) [95] 5) [32,9,10] 1) [35] 2) [34] 6) [33] 7) [60,62] 8) [59,44,46,58,40,41,91,93,123,125,61,43,45] 9=pq:=by
 decide+kernel
theorem xX (w:World):
  Calls prog 126 #[] w fun e w'=>e= .returned (.agg (gv pq))/\Below w.heap.size w w':=by
 go_enter func126,ntmps126;go_wp2_with fail;have L:zeroCells188=gv (replicate 256 0):=by kernel_rfl
 have c:Blk ((w.alloc (Obj.cells zeroCells188 188)).alloc (Obj.cells zeroCells188 188)) (w.heap.size+1) (gv (replicate 256 0)) 188:=by
  have:=Blk.new (w.alloc (Obj.cells zeroCells188 188)) zeroCells188 188;rw[show(w.alloc (Obj.cells zeroCells188 188)).heap.size=w.heap.size+1 from by simp]at this;rw[<-L];exact this
 have j:Blk ((w.alloc (Obj.cells zeroCells188 188)).alloc (Obj.cells zeroCells188 188)) w.heap.size zeroCells188 188:=(Blk.new w _ _).alloc _;have g:Below w.heap.size w ((w.alloc (Obj.cells zeroCells188 188)).alloc (Obj.cells zeroCells188 188)):=((Below.refl _ w).alloc bW _).alloc (by simp) _;generalize J:(w.alloc (Obj.cells zeroCells188 188)).alloc (Obj.cells zeroCells188 188)=v0 at c j g;clear J L;generalize e0:replicate 256 (0:Int)=g0 at c;have T:g0.length=256:=by rw[<-e0,length_replicate]
 have E0:=bP e0;clear e0;refine(je _ _ T _ ?s0 _ _ c).mono ?_;case s0=>decide
 rintro e v1 ⟨rfl,h1,k1⟩;generalize m:dV g0 _ _=g1 at h1;have U:g1.length=256:=by rw[<-m,eF,T]
 have E1:=bP m;clear m;go_wp2_with fail;refine(je _ _ U _ ?s1 _ _ h1).mono ?_;case s1=>decide
 rintro e v2 ⟨rfl,x,k2⟩;generalize n:dV g1 _ _=g2 at x;have V:g2.length=256:=by rw[<-n,eF,U]
 have E2:=bP n;clear n;go_wp2_with fail;refine(je _ _ V _ ?s2 _ _ x).mono ?_;case s2=>decide
 rintro e v3 ⟨rfl,y,k3⟩;generalize o:dV g2 _ _=g3 at y;have X:g3.length=256:=by rw[<-o,eF,V]
 have E3:=bP o;clear o;go_wp2_with fail;refine(je _ _ X _ ?s3 _ _ y).mono ?_;case s3=>decide
 rintro e v4 ⟨rfl,z,M⟩;generalize p:dV g3 _ _=g4 at z;have Y:g4.length=256:=by rw[<-p,eF,X]
 have E4:=bP p;clear p;go_wp2_with fail;refine(je _ _ Y _ ?s4 _ _ z).mono ?_;case s4=>decide
 rintro e v5 ⟨rfl,A,N⟩;generalize q:dV g4 _ _=g5 at A;have Z:g5.length=256:=by rw[<-q,eF,Y]
 have E5:=bP q;clear q;go_wp2_with fail;refine(je _ _ Z _ ?s5 _ _ A).mono ?_;case s5=>decide
 rintro e v6 ⟨rfl,B,O⟩;generalize r:dV g5 _ _=g6 at B;have l6:g6.length=256:=by rw[<-r,eF,Z]
 have E6:=bP r;clear r;go_wp2_with fail;refine(je _ _ l6 _ ?s6 _ _ B).mono ?_;case s6=>decide
 rintro e v7 ⟨rfl,D,Q⟩;generalize s:dV g6 _ _=g7 at D;have l7:g7.length=256:=by rw[<-s,eF,l6]
 have E7:=bP s;clear s;go_wp2_with fail;refine(je _ _ l7 _ ?s7 _ _ D).mono ?_;case s7=>decide
 rintro e v8 ⟨rfl,E,R⟩;generalize t:dV g7 _ _=g8 at E;have l8:g8.length=256:=by rw[<-t,eF,l7]
 have E8:=bP t;clear t;go_wp2_with fail;refine(je _ _ l8 _ ?s8 _ _ E).mono ?_;case s8=>decide
 rintro e v9 ⟨rfl,d,S⟩;generalize u:dV g8 _ _=g9 at d;have l9:g9.length=256:=by rw[<-u,eF,l8]
 have E9:=bP u;clear u;go_wp2_with fail;have F:Blk v9 (w.heap.size+1) (gv pq) 188:=by
  rw[<-E9.out,<-E8.out,<-E7.out,<-E6.out,<-E5.out,<-E4.out,<-E3.out,<-E2.out,<-E1.out,<-E0.out]at d;rw[<-xY];exact d
 have G:Blk v9 w.heap.size zeroCells188 188:=(((((((((j.below k1 (by omega)).below k2 (by omega)).below k3 (by omega)).below M (by omega)).below N (by omega)).below O (by omega)).below Q (by omega)).below R (by omega)).below S (by omega));clear c h1 x y z A B D E d;have I:Below w.heap.size w v9:=g.trans ((((((((((k1.trans (k2.mono bW)).trans (k3.mono bW)).trans (M.mono bW)).trans (N.mono bW)).trans (O.mono bW)).trans (Q.mono bW)).trans (R.mono bW)).trans (S.mono bW))).mono (by omega));generalize hC:gv pq=C at F;have f:C.size=256:=by rw[<-hC];rfl
 have H:C.all (·.oneCell')=true:=by rw[<-hC];kernel_rfl
 have a:(prog.info? 188).map (·.size)=some C.size:=by rw[f];kernel_rfl
 refine wp_load_row 188 (.tmp 1) rfl (w.heap.size+1) rfl 188 C (0,0) (.array 256 3) F rfl rfl a ?_;have l:zeroCells188.size=C.size:=by rw[f];rfl
 go_wp2_with fail;have k:=run_storeCells_from (P:=prog) w.heap.size 188 C.toList 0 zeroCells188 v9 G (by rw[l];simp) (fun v hv=>(Array.all_eq_true_iff_forall_mem.1 H) v (by simpa using hv));rw[k];simp only[Result.andThen_ok];rw[Oper.upon_skip];have b:(v9.setRow w.heap.size (zeroCells188.toList.take 0++C.toList).toArray).heap[w.heap.size]?=some (.cells C 188 (0,0)):=by
  have:=setRow_heap v9 w.heap.size zeroCells188 (zeroCells188.toList.take 0++C.toList).toArray 188 _ G;simpa using this
 have i:Below w.heap.size w (v9.setRow w.heap.size (zeroCells188.toList.take 0++C.toList).toArray):=below_setRow I bW _;generalize v9.setRow w.heap.size (zeroCells188.toList.take 0++C.toList).toArray=vR at b i⊢;clear k l G F;go_wp2_with fail;refine bodyPost_ret (v:= .agg C) (results_cell_row rfl _ _ w.heap.size 188 C (0,0) (.array 256 3) rfl b rfl rfl a) rfl ?_;exact⟨by rw[hC],i⟩
end
end Go.Proofs.YtmhdgddjeadjjaaGreatDoor
