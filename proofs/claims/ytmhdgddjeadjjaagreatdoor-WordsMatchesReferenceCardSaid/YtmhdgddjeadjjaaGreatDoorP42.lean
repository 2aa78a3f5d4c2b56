/- QC -/
import Derived.Test.YtmhdgddjeadjjaaGreatDoorP39
namespace Go.Proofs.YtmhdgddjeadjjaaGreatDoor
open _root_.List Go.Lib _root_.Nat Go.World _root_.Int Go.Proofs.Tryz
section
open Go.ChangeShapes Go.WideShapes Go.ChangeAt Go.RowKit Go.Joins Go.Deep
set_option maxRecDepth 100000
def Fc:DataW Unit->Array Value
 | .agg l=>(l.flatMap (fun d=>match d with | .agg m=>m.map EI |_=>[])).toArray
 |_=> #[]
noncomputable def kL (os:Os):World:=
 let N:=(settled prog os).heap.size
 let w0:=holding prog os ⟨#[.cells #[.string ⟨#[118,97,108,117,101,32,111,117,116,32,111,102,32,114,97,110,103,101]⟩] 328,.cells #[.string ⟨#[105,110,118,97,108,105,100,32,115,121,110,116,97,120]⟩] 328],#[],[]⟩
 let put (h:Array Obj) (g:Nat) (cs:Array Value):Array Obj:=h.modify g fun
  | .cells _ t frozen=> .cells cs t frozen
  |o=>o
 let h1:=put w0.heap 3 #[.iface 326 (.pointer (some ⟨N+1,0,none⟩))]
 let a:=put h1 4 #[.iface 326 (.pointer (some ⟨N,0,none⟩))]
 let b:=put a 5 (As Rows.laid_internal_strconv_uint64pow10)
 let c:=put b 6 (As Rows.laid_math_bits_deBruijn32tab)
 let d:=put c 7 (As Rows.laid_math_bits_deBruijn64tab)
 let e:=put d 2 (Fc Rows.laid_unicode_utf8_acceptRanges)
 let f:=put e 1 (As Rows.laid_unicode_utf8_first)
 { w0 with heap:=f }
end
end Go.Proofs.YtmhdgddjeadjjaaGreatDoor
