/- GJ -/
import Derived.Test.YtmhdgddjeadjjaaGreatDoorP04
namespace Go.Proofs.YtmhdgddjeadjjaaGreatDoor
open _root_.List Go.Lib _root_.Nat Go.World _root_.Int Go.Proofs.Tryz
section
open Go.RowKit Classical
theorem zv (w:World)(s:ByteArray)(i:Nat):Below w.heap.size w (w.iter s i):=by
 unfold World.iter;exact(Below.refl _ w).alloc bW _
set_option maxRecDepth 100000
set_option maxHeartbeats 2000000
theorem uT (s:ByteArray)(M:s.size=2)(a:∀i (h:i<s.size),(s[i]'h).toNat<128)(r:Nat)(L:r<=1114111)(w:World):
  Calls prog 219 #[.string s,.int .i32 r] w fun e w'=>(∃k:Int, -1<=k/\e= .returned (.int .i64 k))/\Below w.heap.size w w':=by
 have G:1<s.size:=by omega
 by_cases h1:r<128
 .refine(strings_IndexRune_ascii s r w (by omega) (by omega)).mono ?_;rintro e w' ⟨rfl,rfl⟩;exact⟨⟨_,indexByte_ge _ _,rfl⟩,bX⟩
 .go_enter func219,ntmps219;have d1:decide ((r:Int)<128)=false:=by simp;omega
  by_cases B:r=65533
  .subst B;clear d1;go_wp2_with fail;go_loopg [5,6] 2 (fun g _ _ C=>∃i:Nat,i+g=2/\C=w.iter s i);case atStart=>exact⟨0,by omega,rfl⟩
   case round=>
    obtain⟨i,F,rfl⟩:=hrel;cases gk with
    |zero=>
     obtain rfl:i=2:=by omega
     have u:=run_next_end (P:=prog) w s 2;go_wp2;go_ret;exact⟨⟨-1,by omega,rfl⟩,zv w _ _⟩
    |succ g=>
     have J:i<2:=by omega
     have u:=fun ty=>run_next_ascii (P:=prog) w s i ty (by omega) (a i (by omega));have d2:(((s[i]'(by omega)).toNat:Int)==65533)=false:=by
      have:=a i (by omega);simp;omega
     go_wp2;go_roundg g;case measure=>omega
     case rel=>exact⟨i+1,by omega,rfl⟩
  .have d2:((r:Int)==65533)=false:=by simpa using(by omega:¬(r:Int)=65533)
   cases v:Lib.validRune r with
   |false=>
    go_wp2_with (go_at_call 252;refine(utf8_ValidRune r _).mono ?_;rintro e b ⟨rfl,rfl⟩);go_ret;exact⟨⟨-1,by omega,rfl⟩,bX⟩
   |true=>
    have x:Utf8.valid r=true:=by
     unfold Lib.validRune at v;unfold Utf8.valid;simp at v⊢;omega
    obtain⟨k2,y,j⟩:=encode_facts r x (by omega);have n:∀b,(convert 21 9 (.int .i32 (r:Int))).run prog b= .ok (.string (Utf8.encode (r:Int))) b:=fun b=>run_convert_int_string b 21 9 .i32 _ rfl rfl;generalize l:Utf8.encode (r:Int)=E at k2 y j n;have I:=bP l;clear l;go_wp2_with (first |(go_at_call 252;refine(utf8_ValidRune r _).mono ?_;rintro e b ⟨rfl,rfl⟩) |fail);go_wp2_with fail;refine wp_scope_straight ?_;obtain⟨m,hm⟩:∃m,E.size=m+2:=⟨E.size-2,by omega⟩;go_wp2_with fail;go_loop [9] (fun i=>i= .int .i64 ((m:Int)+1)) (fun _=>0);case atStart=>go_num
    case round=>
     subst hrel;by_cases q:m=0
     .subst q;have t:E.size=2:=by omega
      have z:=bP j;clear j k2 y d1 d2 hm;obtain⟨d,o⟩:∃d:UInt8,E[1]'(by omega)=d:=⟨_,rfl⟩;have D:128<=d.toNat:=by
       have:=z.out (by omega);simp only[t]at this;rw[<-o];exact this
      obtain⟨f,p⟩:∃f:UInt8,s[1]'(by omega)=f:=⟨_,rfl⟩;have d4:((f.toNat:Int) != (d.toNat:Int))=true:=by
       have:=a 1 (by omega);rw[p]at this;simp;omega
      have A:∀(c:UInt8) w,Calls prog 188 #[.string ByteArray.empty,.int .u8 c.toNat] w fun e w'=>e= .returned (.int .i64 (-1))/\w'=w:=fun c w=>strings_IndexByte ByteArray.empty c.toNat w;have H:IntKind.i64.wrap 2=2:=rfl;clear a;go_wp2_with fail;refine wp_scope_straight ?_;go_wp2_with fail;go_quiet (fail);go_wp2_with fail;go_quiet ((go_at_call 188;exact(A _ _).mono (fun e N h=>⟨h.1,_,h.2⟩)));go_wp2_with fail;simp+zetaDelta only[Exit.noGoto,Exit.inBlock,Exit.then];go_ret;exact⟨⟨-1,by omega,rfl⟩,below_drewN' bX _⟩
     .have d3:decide ((m:Int)+1<2)=false:=by simp;omega
      go_wp2;go_ret;exact⟨⟨-1,by omega,rfl⟩,bX⟩
theorem qI (c:List UInt8):∀l:List UInt8,indexAny l c<l.length
 |[]=>by simp[indexAny]
 |b::l=>by
  have:=qI c l;unfold indexAny;split
  .simp
  .split
   .simp;omega
   .simp;omega
theorem vA (s c:ByteArray)(u:c.size=2)(n:∀i (h:i<c.size),(c[i]'h).toNat<128)(C:s.size<4294967281)(w:World):
  Calls prog 190 #[.string s,.string c] w fun e w'=>(∃k:Int, -1<=k/\k<s.size/\e= .returned (.int .i64 k))/\Below w.heap.size w w':=by
 have g:∀(j:Nat) b,c.data.toList[j]?=some b->b.toNat<128:=fun j b B=>by
  obtain⟨h1,y⟩:=List.getElem?_eq_some_iff.1 B;rw[<-y];exact n j (by simpa [<-ByteArray.size_data]using h1)
 by_cases z:8<s.size
 .refine(strings_IndexAny_long (fun w=>rfl) s c w (by omega) z C (by omega) g).mono ?_;rintro e w' ⟨rfl,rfl⟩;refine⟨⟨_,indexAny_ge _ _,?_,rfl⟩,(bX.alloc bW _).alloc (by simp) _⟩;rw[Lib.size_eq];exact qI _ _
 .clear g;have A:c.toList.isEmpty=false:=by
   rw[toList_data];cases h:c.data.toList with
   |nil=>have:=Lib.size_eq c;rw[h,length_nil]at this;omega
   |cons _ _=>rfl
  have E:((c.size:Int)==1)=false:=by rw[u];rfl
  have q:decide ((8:Int)<(s.size:Int))=false:=bY;go_enter func190,ntmps190;go_wp2_with (go_at_call 220;refine(strings_shouldUseASCIISet _ _).mono ?_;rintro e w' ⟨rfl,hw⟩;rw[hw,q]);go_loopg [9,10] s.size (fun gf _ _ x=>∃pos:Nat,x.heap[w.heap.size]?=some (.stringIter s pos)/\Below w.heap.size w x/\s.size<=pos+gf);case atStart=>exact⟨0,iter_heap w s 0,(Below.refl _ w).alloc bW _,by omega⟩
  case round=>
   obtain⟨pos,hit,m,D⟩:=hrel;by_cases o:pos<s.size
   .obtain⟨g',rfl⟩:∃g',gk=g'+1:=⟨gk -1,by omega⟩;have l:∀ty,(Instr.next (.pointer (some ⟨w.heap.size,0,none⟩)) true ty).run prog wr=_:=fun ty=>run_next_any_at wr w.heap.size s pos ty hit o;have v:=width_pos s pos;have p:=rune_le s pos;obtain⟨R,r⟩:∃R,(Utf8.decode s pos).1=R:=⟨_,rfl⟩;obtain⟨K,hK⟩:∃K,(Utf8.decode s pos).2=K:=⟨_,rfl⟩;rw[r,hK]at l;rw[hK]at v;rw[r]at p;have d:=iterAt_heap wr w.heap.size s pos (pos+K) hit;have a:=below_iterAt m (k:=w.heap.size) bW s (pos+K);obtain⟨W,t⟩:∃W,wr.iterAt w.heap.size s (pos+K)=W:=⟨_,rfl⟩;rw[t]at l d a;have cS:=uT c u n R p W;go_wp2_with (go_at_call 219;refine cS.mono ?_;rintro e W' ⟨⟨k,hk,rfl⟩,f⟩)
    .go_ret;exact⟨⟨(pos:Int),by omega,by omega,rfl⟩,a.trans (f.mono a.size)⟩
    .go_roundg g';case measure=>omega
     case rel=>exact⟨pos+K,(f.block w.heap.size (Array.getElem?_eq_some_iff.1 d).1).trans d,a.trans (f.mono a.size),by omega⟩
   .have l:∀ty,(Instr.next (.pointer (some ⟨w.heap.size,0,none⟩)) true ty).run prog wr=_:=fun ty=>run_next_end_at wr w.heap.size s pos ty hit o;go_wp2;go_ret;exact⟨⟨-1,by omega,by omega,rfl⟩,m⟩
theorem jL (l:List UInt8)(cls:List Int)(i:Nat):i<=dn l cls i:=by unfold dn;omega
theorem lj (l:List UInt8)(cls:List Int)(i:Nat)(h:i<=l.length):dn l cls i<=l.length:=by
 have:=(takeWhile_sublist (l:=l.drop i) fun c=>cls.contains (dJ c.toNat)).length_le;rw[length_drop]at this;unfold dn;omega
theorem xM {l:List UInt8}{i:Nat}(b:i<=l.length)(h:dt l i≠1):dn l [1] i=i:=by
 by_cases a:i<l.length
 .refine qU (c:=l[i]) (getElem?_eq_getElem a) ?_;rw[dt,getElem?_eq_getElem a]at h;simpa using h
 .exact td (by omega)
theorem yQ (b:Nat)(s:ByteArray)(i:Nat)(r:i<=s.size)(p:s.size<=maxLen)(w:World)(h:gM w b s)(y:b<w.heap.size):
  Calls prog 127 #[.pointer (some ⟨b,0,none⟩),.int .i64 i] w fun e w'=>
   (∃g:Nat,e= .returned (.int .i64 g)/\i<=g/\g<=s.size/\(dt (bl s) i≠1->dt (bl s) i≠2->g=i))/\Below w.heap.size w w':=by
 have G:=p;unfold maxLen at G;have z:∀a:World,b8 (a.alloc (.cells #[.int .i64 1] 3)) (a.heap.size+1) (some ⟨a.heap.size,0,none⟩) (nums [1]):=fun a _=>
  ⟨_,0,rfl,by omega,fun i x J=>by rw[Nat.zero_add];exact Box.new a [.int .i64 1] 3 i x J⟩
 have A:∀(k:Nat) (a:World),k<=s.size->Below w.heap.size w a->
   Calls prog 186 #[.pointer (some ⟨b,0,none⟩),.int .i64 k,.slice (some ⟨a.heap.size,0,none⟩) 1 1] (a.alloc (.cells #[.int .i64 1] 3)) fun e w'=>e= .returned (.int .i64 (dn (bl s) [1] k))/\Below w.heap.size w w':=
  fun k a hk d=>(uN b s k [1] _ 1 (by decide) hk p _ ((h.below d y).below (bX.alloc bW _) (Nat.lt_of_lt_of_le y d.size)) _ (z a)).mono fun e w' ⟨he,q,I⟩=>⟨he,by rw[I];exact below_drewN' (d.alloc d.size _) q⟩
 go_enter func127,ntmps127;go_wp2_with (go_at_call 186;refine(A i w r bX).mono ?_;rintro e a ⟨rfl,d⟩);go_loopw [1] (fun c1 wr=>∃k:Nat,i<=k/\k<=s.size/\c1= .int .i64 k/\(dt (bl s) i≠1->dt (bl s) i≠2->k=i)/\Below w.heap.size w wr) (fun c1 _=>s.size-(intOf c1).toNat);case atStart=>exact⟨dn (bl s) [1] i,jL _ _ _,by have:=lj (bl s) [1] i (by rw[b9];exact r);rwa [b9]at this,rfl,fun h1 _=>xM (by rw[b9];exact r) h1,d⟩
 case round=>
  obtain⟨k,C,D,rfl,u,j⟩:=hrel;have n:=bP u;have l:=h.below j y;have P:=l.text;clear u;by_cases c:dt (bl s) k=2
  .have d1:(dt (bl s) k==2)=true:=by simpa using c
   rcases indexByte_piece s k s.size 10 with F |⟨o,t,L⟩
   .have v:∀a:World,Calls prog 188 #[.string (s.extract k s.size),.int .u8 10] a fun e w'=>e= .returned (.int .i64 (-1))/\w'=a:=fun a=>(strings_IndexByte (s.extract k s.size) 10 a).mono fun e w' h=>⟨h.1.trans (by rw[show indexByte (s.extract k s.size).data.toList (10:Int).toNat.toUInt8= -1 from F]),h.2⟩;have m:=bP c;clear F c;go_wp2_with (first
     |(go_at_call 187;refine(nw b s k p _ l).mono ?_;rintro e a ⟨rfl,q1,rfl⟩)
     |(go_at_call 188;refine(v _).mono ?_;rintro e a ⟨rfl,rfl⟩))
    go_ret;refine⟨⟨s.size,rfl,r,bW,fun h1 f=>?_⟩,below_drewN' j _⟩;have:=n.out h1 f;subst this;exact absurd m.out f
   .have v:∀a:World,Calls prog 188 #[.string (s.extract k s.size),.int .u8 10] a fun e w'=>e= .returned (.int .i64 (o:Int))/\w'=a:=fun a=>(strings_IndexByte (s.extract k s.size) 10 a).mono fun e w' h=>⟨h.1.trans (by rw[show indexByte (s.extract k s.size).data.toList (10:Int).toNat.toUInt8=o from t]),h.2⟩;have M:0<o:=by
     rcases eq_zero_or_pos o with rfl |H
     .exfalso;have h1:=(indexByte_some t).1;have f:(bl s)[k]?=some 10:=by
       rw[extract_data,getElem?_take]at h1;split at h1
       .simpa [bl]using h1
       .simp at h1
      rw[dt,f]at c;revert c;decide
     .exact H
    have m:=bP c;have N:=bP t;clear t c;go_wp2_with (first
     |(go_at_call 187;refine(nw b s k p _ l).mono ?_;rintro e a ⟨rfl,q1,rfl⟩)
     |(go_at_call 188;refine(v _).mono ?_;rintro e a ⟨rfl,rfl⟩)
     |(go_at_call 186;refine(A (k+o) _ (by omega) (below_drewN' j _)).mono ?_;rintro e a ⟨rfl,B⟩))
    have O:=jL (bl s) [1] (k+o);have E:=lj (bl s) [1] (k+o) (by rw[b9];omega);rw[b9]at E;refine⟨⟨dn (bl s) [1] (k+o),by omega,E,rfl,fun h1 f=>?_,B⟩,by simp[intOf];omega⟩;have:=n.out h1 f;subst this;exact absurd m.out f
  .have d1:(dt (bl s) k==2)=false:=by simpa using c
   clear c;go_wp2_with (first
     |(go_at_call 187;refine(nw b s k p _ l).mono ?_;rintro e a ⟨rfl,q1,rfl⟩))
   go_ret;exact⟨⟨k,rfl,C,D,n.out⟩,below_drewN' j _⟩
end
end Go.Proofs.YtmhdgddjeadjjaaGreatDoor
