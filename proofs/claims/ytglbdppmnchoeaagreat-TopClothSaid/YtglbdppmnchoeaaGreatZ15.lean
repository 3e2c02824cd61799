/- Part 15. -/
import Derived.Test.YtglbdppmnchoeaaGreatZ11
import Derived.Test.YtglbdppmnchoeaaGreatProg
import Derived.WalkKit
import Derived.Lib.Walk
import Derived.KernelRfl
set_option maxHeartbeats 2000000
namespace Go.F
open Go.Proofs Go.RowKit Go.Lib
set_option maxRecDepth 100000 in
theorem em57 (a:Option Addr)(cap:Nat)(w:World):Calls Tryz.prog 57 #[.slice a 0 cap] w fun e w'=>∃f b,e=.returned (.slice f 0 b)/\F.Below w.heap.size w w':=by
 have q:∀(w:World) (a:Option Addr) (n c n' d:Nat),(binOp .eql 23 (.slice a n c) (.slice none n' d)).run Tryz.prog w=.ok (.bool a.isNone) w:=fun w a n c n' d=>Lib.run_eql_slice_nil w 23 3 a n c n' d (by kernel_rfl);cases a<;>go_enter Tryz.func57,Tryz.ntmps57<;>go_wp2<;>go_ret
 .exact⟨_,_,rfl,F.Below.refl _ _⟩
 .exact⟨_,_,rfl,(F.Below.refl _ w).alloc (zD _) _⟩
set_option maxRecDepth 100000 in
theorem em62 (a:Option Addr)(cap:Nat)(w:World):Calls Tryz.prog 62 #[.slice a 0 cap] w fun e w'=>∃f b,e=.returned (.slice f 0 b)/\F.Below w.heap.size w w':=by
 have q:∀(w:World) (a:Option Addr) (n c n' d:Nat),(binOp .eql 39 (.slice a n c) (.slice none n' d)).run Tryz.prog w=.ok (.bool a.isNone) w:=fun w a n c n' d=>Lib.run_eql_slice_nil w 39 87 a n c n' d (by kernel_rfl);cases a<;>go_enter Tryz.func62,Tryz.ntmps62<;>go_wp2<;>go_ret
 .exact⟨_,_,rfl,F.Below.refl _ _⟩
 .exact⟨_,_,rfl,(F.Below.refl _ w).alloc (zD _) _⟩
set_option maxRecDepth 100000 in
theorem em289 (a:Option Addr)(cap:Nat)(w:World):Calls Tryz.prog 289 #[.slice a 0 cap] w fun e w'=>∃f b,e=.returned (.slice f 0 b)/\F.Below w.heap.size w w':=by
 have q:∀(w:World) (a:Option Addr) (n c n' d:Nat),(binOp .eql 71 (.slice a n c) (.slice none n' d)).run Tryz.prog w=.ok (.bool a.isNone) w:=fun w a n c n' d=>Lib.run_eql_slice_nil w 71 85 a n c n' d (by kernel_rfl);cases a<;>go_enter Tryz.func289,Tryz.ntmps289<;>go_wp2<;>go_ret
 .exact⟨_,_,rfl,F.Below.refl _ _⟩
 .exact⟨_,_,rfl,(F.Below.refl _ w).alloc (zD _) _⟩
theorem em_ok:EmOK Tryz.prog fL:=by
 intro f fn b _ _ d a cap w;have h:emL.any (Nat.beq f)=true:=d;rw[xc]at h;obtain⟨k,c,h⟩:=h;obtain rfl:=zl h;simp only[emL,zP,w5,vM]at c;rcases c with rfl|rfl|rfl<;>first|exact em57 a cap w|exact em62 a cap w|exact em289 a cap w
end Go.F
