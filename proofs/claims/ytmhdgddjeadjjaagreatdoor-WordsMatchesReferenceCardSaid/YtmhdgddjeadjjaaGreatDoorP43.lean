/- Q22a -/
import Derived.Test.YtmhdgddjeadjjaaGreatDoorP41
import Derived.Test.YtmhdgddjeadjjaaGreatDoorP42
import Derived.Test.YtmhdgddjeadjjaaGreatDoorCards
import Derived.Test.YtmhdgddjeadjjaaGreatDoorTie
namespace Go.Proofs.YtmhdgddjeadjjaaGreatDoor
open _root_.List Go.Lib _root_.Nat Go.World _root_.Int Go.Proofs.Tryz
section
open Go.ChangeShapes Go.WideShapes Go.ChangeAt Go.RowKit Go.Joins Go.Deep
open Go.ChangeMaps (open_string shut_string)
section
variable {H : Type} {enc : TypeId × Value → H} {P : Program} {w : World} {base : Nat} {spare : Nat → Bool} {held : Bool}
set_option maxRecDepth 100000
theorem xK {t n l t3 t4:TypeId}{args:Array Value}{m:List (DataW H)}{ps:List MemPlace}(h:DataW.TrodAll enc P w base spare held [t,n,l,t3,t4] args.toList m ps):
  ∃v v' a v3 v4 d f b d3 d4 p i c j k,args= #[v,v',a,v3,v4]/\m=[d,f,b,d3,d4]/\ps=p++i++c++j++k/\DataW.Trod enc P w base spare held t v d p/\DataW.Trod enc P w base spare held n v' f i/\DataW.Trod enc P w base spare held l a b c/\DataW.Trod enc P w base spare held t3 v3 d3 j/\DataW.Trod enc P w base spare held t4 v4 d4 k:=by
 obtain⟨v,o,d,z,p,q,r,rfl,rfl,y,g⟩:=trodAll_cons h;obtain⟨v',a,v3,v4,f,b,d3,d4,i,c,j,k,e,rfl,rfl,h1,s,u,x⟩:=trodAll_four (args:=o.toArray) g;obtain rfl:o=[v',a,v3,v4]:=congrArg Array.toList e;exact⟨v,v',a,v3,v4,d,f,b,d3,d4,p,i,c,j,k,by cases args;simp_all,rfl,by simp,y,h1,s,u,x⟩
theorem yC {t l c t3 t4:TypeId}{v v' e v3 v4:Value}{d j b d3 d4:DataW H}{p f a g i:List MemPlace}(h:DataW.Trod enc P w base spare held t v d p)(m:DataW.Trod enc P w base spare held l v' j f)
  (k:DataW.Trod enc P w base spare held c e b a)(n:DataW.Trod enc P w base spare held t3 v3 d3 g)(o:DataW.Trod enc P w base spare held t4 v4 d4 i):DataW.TrodAll enc P w base spare held [t,l,c,t3,t4] [v,v',e,v3,v4] [d,j,b,d3,d4] (p++(f++(a++(g++i)))):=⟨p,f++(a++(g++i)),h,trodAll_mk4 m k n o,rfl⟩
end
set_option maxRecDepth 100000
theorem BA (os:Os)(args:Array Value):laidMet prog Rows.wordsMatchesReferenceRow.laid ((kL os).forCall (fun _ _=>0) ⟨#[],args,[]⟩).memory:=
 laidMet_of_run' 8 (by kernel_rfl) (by kernel_rfl)
theorem Fh (os:Os){H:Type}(enc:TypeId×Value->H):
  (OpenSpec.ofChange Rows.wordsMatchesReferenceSpec).preRow enc prog f3 Rows.wordsMatchesReferenceRow.domain false Rows.wordsMatchesReferenceRow.laid ((kL os).forCall (fun _ _=>0) ⟨#[],#[.agg #[.slice none 0 0,.slice none 0 0],.agg #[.string ⟨#[]⟩,.int .i64 0,.string ⟨#[]⟩],.string ⟨#[]⟩,.slice none 0 0,.slice none 0 0],[]⟩).memory #[.agg #[.slice none 0 0,.slice none 0 0],.agg #[.string ⟨#[]⟩,.int .i64 0,.string ⟨#[]⟩],.string ⟨#[]⟩,.slice none 0 0,.slice none 0 0]:=by
 have hw:(DataW.whole enc prog ((kL os).forCall (fun _ _=>0) ⟨#[],#[.agg #[.slice none 0 0,.slice none 0 0],.agg #[.string ⟨#[]⟩,.int .i64 0,.string ⟨#[]⟩],.string ⟨#[]⟩,.slice none 0 0,.slice none 0 0],[]⟩).memory f3.params.toList Rows.wordsMatchesReferenceSpec.vars false #[.agg #[.slice none 0 0,.slice none 0 0],.agg #[.string ⟨#[]⟩,.int .i64 0,.string ⟨#[]⟩],.string ⟨#[]⟩,.slice none 0 0,.slice none 0 0].toList 8).map (fun x=>(x.1,x.2.1))=
   some ([.agg [.nil,.nil],.agg [.lit (.string []),.lit (.int .i64 0),.lit (.string [])],.lit (.string []),.nil,.nil],[]):=by kernel_rfl
 obtain⟨⟨x1,c,x3⟩,b,a⟩:=Option.map_eq_some_iff.1 hw;simp only[Prod.mk.injEq]at a;obtain⟨rfl,rfl⟩:=a;exact OpenSpec.preRow_of_cond 8 b (by kernel_rfl) (fun k hk=>by cases hk) (by kernel_rfl) (BA os _)
theorem zC (H:Type)(enc:TypeId×Value->H)(W:World)(base:Nat)(args:Array Value)(f gs:List (DataW H))(before:List MemPlace)
  (a:∀(j:Nat) t v,f3.params[j]?=some t->args[j]?=some v->Value.okWide prog W .any base t v)
  (o:DataW.Whole enc prog f3.params.toList Rows.wordsMatchesReferenceSpec.vars false W args.toList f gs before):
  Calls prog 3 args W fun e W'=>∃v,e= .returned v/\Rows.wordsMatchesReferenceSpec.post enc prog f3 false true false false W args v W':=by
 have d:=o;obtain⟨p,q,n,D,rfl,_,_⟩:=o;have m:DataW.TrodAll enc prog W 0 (fun _=>true) true f3.params.toList args.toList f p:=n;rw[params3]at m a;obtain⟨v0,v1,v2,v3,v4,d0,d1,d2,d3,d4,y,z,A,B,C,rfl,rfl,rfl,g,h1,i,k,l⟩:=xK m;obtain⟨rfl,rfl⟩:=trodVars_none D;have g0:=g;obtain⟨s0,r⟩:=BQ (a 0 25 v0 rfl rfl) g;have g1:=h1;obtain⟨s1,i1,t1,rfl,x1,J⟩:=BR (a 1 27 v1 rfl rfl) h1;have g2:=i;obtain⟨s2,rfl,_,_,s⟩:=open_string underlying9 (a 2 9 v2 rfl rfl) i;have g3:=k;obtain⟨a3,c3,F,rfl,z3,k3,x3,u⟩:=Al (a 3 28 v3 rfl rfl) k;have g4:=l;obtain⟨a4,c4,G,rfl,z4,I,w⟩:=An (a 4 29 v4 rfl rfl) l;refine(vh s0 v0 s1 i1 t1 s2 F G a3 a4 c3 c4 W r x1 J s z3 x3 z4 I u w).mono fun e W' ⟨he,c⟩=>?_;subst he;have lt:∀x∈y++(z++(A++(B++C))),x.block<W.heap.size:=fun x b=>by
  have:=d.lt x (by simpa using b);simpa using this
 have k0:=Below.trod mq (by kernel_rfl) (of_decide_eq_true (by kernel_rfl)) g0 c (fun x b=>lt x (by simp[b]));have k1:=Below.trod mq (by kernel_rfl) (of_decide_eq_true (by kernel_rfl)) g1 c (fun x b=>lt x (by simp[b]));have k2:=Below.trod mq (by kernel_rfl) (of_decide_eq_true (by kernel_rfl)) g2 c (fun x b=>lt x (by simp[b]));have k3:=Below.trod mq (by kernel_rfl) (of_decide_eq_true (by kernel_rfl)) g3 c (fun x b=>lt x (by simp[b]));have E:=Below.trod mq (by kernel_rfl) (of_decide_eq_true (by kernel_rfl)) g4 c (fun x b=>lt x (by simp[b]));refine⟨_,rfl,_,_,_,[],y++(z++(A++(B++C))),[],d,?_,?_,?_,c.frame _,fun h=>by cases h⟩
 .exact trodAll_cons_mk (shut_bool underlying4 _) trodAll_mk0
 .rw[params3];exact yC k0 k1 k2 k3 E
 .rfl
theorem C7 (os:Os)(started:os.Started)(H:Type)(enc:TypeId×Value->H)(F:Stop.Interp):
  ReturnsInHanded {} checked os 3 .any ((OpenSpec.ofChange Rows.wordsMatchesReferenceSpec).preRow enc prog f3 Rows.wordsMatchesReferenceRow.domain false Rows.wordsMatchesReferenceRow.laid) (((OpenSpec.ofChange Rows.wordsMatchesReferenceSpec).at F).post enc prog f3 false true false false):=by
 refine returnsInHanded_of_row (C:=checked) (s:=OpenSpec.ofChange Rows.wordsMatchesReferenceSpec) Fq started (by kernel_rfl) func3
  (witness_row_atRef (enc:=enc) (C:=checked) false (kL os) #[.agg #[.slice none 0 0,.slice none 0 0],.agg #[.string ⟨#[]⟩,.int .i64 0,.string ⟨#[]⟩],.string ⟨#[]⟩,.slice none 0 0,.slice none 0 0] rfl (by kernel_rfl) (by kernel_rfl) (by kernel_rfl) (Fh os enc)) ?_
 intro W base args b gs before a c _ _ _ _ _ _;exact zC H enc W base args b gs before a c
end
end Go.Proofs.YtmhdgddjeadjjaaGreatDoor
