/- A part of the proof: what the claim reaches. -/
import Derived.Test.YtmhdgddjeadjjaaGreatDoorProg
import Derived.WalkSpells
import Derived.WalkLawsBesides
import Derived.Lib.Hide
import Derived.RangeFuncNested
import Derived.OrdersIn
import Derived.Deep.RegionHeld3
import Derived.Test.YtmhdgddjeadjjaaGreatDoorIter
namespace Go.Proofs.YtmhdgddjeadjjaaGreatDoor
open _root_.List Go.Lib _root_.Nat Go.World _root_.Int Go.Proofs.Tryz
section
open Go
def du:List UInt8->List UInt8->List (List UInt8)
 |[],cur=>if cur=[] then [] else [cur]
 |c::t,cur=>if c=32 then (if cur=[] then du t [] else cur::du t []) else du t (cur++[c])
def cA (t:List UInt8):List (List UInt8):=du t []
theorem mA:∀(w t cur:List UInt8),32∉w->du (w++t) cur=du t (cur++w)
 |[],t,cur,_=>by simp
 |c::w,t,cur,h=>by
  have a:c≠32:=fun e=>h (by rw[e];exact mem_cons_self ..);rw[cons_append,du,if_neg a,mA w t (cur++[c]) (fun q=>h (mem_cons_of_mem _ q)),append_assoc];rfl
theorem yD {w r:List UInt8}(h:32∉w):cA (w++32::r)=(if w=[] then [] else [w])++cA r:=by
 unfold cA;rw[mA w _ [] h,nil_append,du,if_pos rfl];split
 .rfl
 .rfl
theorem xO {w:List UInt8}(h:32∉w):cA w=if w=[] then [] else [w]:=by
 have:=mA w [] [] h;rw[append_nil,nil_append]at this;unfold cA;rw[this,du]
theorem qW:cA []=[]:=rfl
theorem lO:∀(t cur:List UInt8),32∉cur->∀p∈du t cur,p≠[]/\32∉p
 |[],cur,a,p,hp=>by
  rw[du]at hp;split at hp
  .cases hp
  .obtain rfl:=mem_singleton.1 hp;exact⟨by assumption,a⟩
 |c::t,cur,a,p,hp=>by
  rw[du]at hp;split at hp
  .split at hp
   .exact lO t [] (by simp) p hp
   .rcases mem_cons.1 hp with rfl |hp
    .exact⟨by assumption,a⟩
    .exact lO t [] (by simp) p hp
  .rename_i h;exact lO t (cur++[c]) (by simp only[mem_append,mem_singleton];rintro(q |q);exact a q;exact h q.symm) p hp
theorem AF {t p:List UInt8}(hp:p∈cA t):p≠[]/\32∉p:=lO t [] (by simp) p hp
theorem j5:∀(t cur:List UInt8),(du t cur).flatten=cur++t.filter (fun c=>c != 32)
 |[],cur=>by
  rw[du];split
  .rename_i h;rw[h];rfl
  .simp
 |c::t,cur=>by
  rw[du];split
  .rename_i h;subst h;split
   .rename_i a;rw[j5 t [],a];simp
   .rw[flatten_cons,j5 t []];simp
  .rename_i h;rw[j5 t (cur++[c])];simp[h]
theorem xN (t:List UInt8):(cA t).flatten=t.filter (fun c=>c != 32):=by rw[cA,j5,nil_append]
theorem kQ:∀(t cur:List UInt8),(du t cur).length<=t.length+(if cur=[] then 0 else 1)
 |[],cur=>by rw[du];split<;>simp
 |c::t,cur=>by
  rw[du];split
  .split
   .have:=kQ t [];simp at this;rw[length_cons];omega
   .have:=kQ t [];simp at this;rw[length_cons,length_cons];omega
  .have:=kQ t (cur++[c]);rw[if_neg (by simp)]at this;rw[length_cons];omega
theorem qV (t:List UInt8):(cA t).length<=t.length:=by have:=kQ t [];unfold cA;simpa using this
end
end Go.Proofs.YtmhdgddjeadjjaaGreatDoor
namespace Go.Proofs
open _root_.List Go.Lib _root_.Nat Go.World _root_.Int Go.Proofs.Tryz
open Go.RowKit Go.Maps Go.Sort Go.Shelf
theorem sorts99 (m:Nat):AnyZ.SortsIn prog sorted99_ren Fence.wide m:=
 ⟨fun blk off cap b W hH hblk a=>callsIn_wide.2 (AnyM.slices_Sort_string sort168 blk off cap b W hH hblk a),
 fun p cap W=>callsIn_wide.2 (AnyM.slices_Sort_string_none sort168 p cap W)⟩
theorem maps_Keys_100 (a:Option Nat)(W:World):CallsIn Fence.wide 5 prog 100 #[.map a] W fun e w'=>e= .returned (.func (.func 169) #[] #[.pointer (some ⟨W.heap.size,0,none⟩)])/\w'=W.alloc (.cells #[.map a] 160):=
 AnyZ.keys_in keys100 Fence.wide 5 trivial rfl a W
set_option maxHeartbeats 1000000
theorem slices_Sorted_keys_99_100 {H:Type}(b nn:Nat)(a:DataW H)(R:Value->Option (DataW H×List MemPlace))(w:World)(f:w.ownsMap prog 9 R b nn a)(g:Maps.size a<=maxLen)(d:Maps.size a*16<=140737488355328):
  CallsIn Fence.wide 5 prog 99 #[.func (.func 169) #[] #[.pointer (some ⟨w.heap.size,0,none⟩)]] (w.alloc (.cells #[.map (some b)] 160)) fun e w'=>∃(v:Value) (c:List (List UInt8)),e= .returned v/\c.Perm (strKeys a)/\
   w'.ownsRow (w.alloc (.cells #[.map (some b)] 160)).heap.size 9 1 v c.length ((c.mergeSort (fun x y=>decide (x<=y))).map encStr)/\(v= .slice none 0 0↔c=[])/\Below (w.alloc (.cells #[.map (some b)] 160)).heap.size (w.alloc (.cells #[.map (some b)] 160)) w':=by
 have j:=f.lt;have i:SeqGives Fence.wide 2 prog 169 #[.pointer (some ⟨w.heap.size,0,none⟩)] encStr (fun c=>c.Perm (strKeys a)) (Maps.size a) (w.alloc (.cells #[.map (some b)] 160)):=
  AnyZ.keys_gives (ρ:=keys100_ren) { keys100 with } Fence.wide _ trivial rfl (by omega) w.heap.size b nn a _ (by simp) (by simp) (by
   obtain⟨es,clock,m,k,n,l⟩:=f;exact⟨es,clock,(Below.heap_alloc _ _ b j).trans m,k,n,l⟩)
 exact AnyZ.sorted_in sorted99 Fence.wide 5 trivial trivial trivial trivial rfl (by omega) (sorts99 _) (enters_of func168 (by kernel_rfl) rfl) 169 #[.pointer (some ⟨w.heap.size,0,none⟩)] trivial (enters_of func169 (by kernel_rfl) rfl) _ _ g d _ i
end Go.Proofs