/- Parts of the proof, part 38: Em. -/
import Derived.Test.YtakaifogljbgoaaGreatZ31
import Derived.Test.YtakaifogljbgoaaGreatZ20
import Derived.Test.YtakaifogljbgoaaGreatProg
import Derived.WalkKit
import Derived.Lib.Walk
import Derived.Lib.SliceRun
import Derived.KernelRfl
set_option linter.all false
namespace Go.F
open Go.Proofs Go.RowKit Go.Lib
set_option maxHeartbeats 2000000 in
set_option maxRecDepth 100000 in
theorem em43 (a:Option Addr)(cap:Nat)(w:World):Calls Tryz.prog 43 #[.slice a 0 cap] w fun e w'=>∃a' cap',e=.returned (.slice a' 0 cap')∧Below w.heap.size w w':=by
 have q:∀(w:World) (a:Option Addr) (n c n' c':Nat),(binOp .eql 25 (.slice a n c) (.slice none n' c')).run Tryz.prog w=.ok (.bool a.isNone) w:=fun w a n c n' c'=>Lib.run_eql_slice_nil w 25 3 a n c n' c' (by kernel_rfl)
 cases a<;>go_enter Tryz.func43,Tryz.ntmps43<;>go_wp2<;>go_ret
 ·exact⟨_,_,rfl,Below.refl _ _⟩
 ·exact⟨_,_,rfl,(Below.refl _ w).alloc (Nat.le_refl _) _⟩
set_option maxHeartbeats 2000000 in
set_option maxRecDepth 100000 in
theorem em44 (a:Option Addr)(cap:Nat)(w:World):Calls Tryz.prog 44 #[.slice a 0 cap] w fun e w'=>∃a' cap',e=.returned (.slice a' 0 cap')∧Below w.heap.size w w':=by
 have q:∀(w:World) (a:Option Addr) (n c n' c':Nat),(binOp .eql 23 (.slice a n c) (.slice none n' c')).run Tryz.prog w=.ok (.bool a.isNone) w:=fun w a n c n' c'=>Lib.run_eql_slice_nil w 23 79 a n c n' c' (by kernel_rfl)
 cases a<;>go_enter Tryz.func44,Tryz.ntmps44<;>go_wp2<;>go_ret
 ·exact⟨_,_,rfl,Below.refl _ _⟩
 ·exact⟨_,_,rfl,(Below.refl _ w).alloc (Nat.le_refl _) _⟩
set_option maxHeartbeats 2000000 in
set_option maxRecDepth 100000 in
theorem em87 (a:Option Addr)(cap:Nat)(w:World):Calls Tryz.prog 87 #[.slice a 0 cap] w fun e w'=>∃a' cap',e=.returned (.slice a' 0 cap')∧Below w.heap.size w w':=by
 have q:∀(w:World) (a:Option Addr) (n c n' c':Nat),(binOp .eql 24 (.slice a n c) (.slice none n' c')).run Tryz.prog w=.ok (.bool a.isNone) w:=fun w a n c n' c'=>Lib.run_eql_slice_nil w 24 50 a n c n' c' (by kernel_rfl)
 cases a<;>go_enter Tryz.func87,Tryz.ntmps87<;>go_wp2<;>go_ret
 ·exact⟨_,_,rfl,Below.refl _ _⟩
 ·exact⟨_,_,rfl,(Below.refl _ w).alloc (Nat.le_refl _) _⟩
theorem em_ok:EmOK Tryz.prog qnI:=by
 intro f fn code _ _ hf a cap w
 have h:emL.any (Nat.beq f)=true:=hf
 rw[List.any_eq_true]at h
 obtain⟨k,hk,h⟩:=h
 obtain rfl:=Nat.eq_of_beq_eq_true h
 simp only[emL,List.mem_cons,List.not_mem_nil,or_false]at hk
 rcases hk with rfl|rfl|rfl<;>first|exact em43 a cap w|exact em44 a cap w|exact em87 a cap w
end Go.F
