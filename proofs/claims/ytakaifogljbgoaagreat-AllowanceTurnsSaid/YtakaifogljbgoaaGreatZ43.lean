/- Parts of the proof, part 43: Base. -/
import Derived.Test.YtakaifogljbgoaaGreatZ39
import Derived.Test.YtakaifogljbgoaaGreatZ42
import Derived.IntWalk
set_option linter.all false
namespace Go.F
class Bd (x:Int) (n:outParam Nat):Prop where
 le:x.natAbs≤n
theorem Bd.lo {x:Int}{n:Nat} [h:Bd x n]: -(n:Int)≤x:=by have:=h.le;omega
theorem Bd.hi {x:Int}{n:Nat} [h:Bd x n]:x≤(n:Int):=by have:=h.le;omega
theorem Bd.of {x:Int}{n:Nat}(h1: -(n:Int)≤x)(h2:x≤n):Bd x n:=⟨by omega⟩
instance bdAdd {x y:Int}{m n:Nat} [a:Bd x m] [b:Bd y n]:Bd (x+y) (m+n):=⟨by have:=a.le;have:=b.le;omega⟩
instance bdSub {x y:Int}{m n:Nat} [a:Bd x m] [b:Bd y n]:Bd (x-y) (m+n):=⟨by have:=a.le;have:=b.le;omega⟩
instance bdNeg {x:Int}{m:Nat} [a:Bd x m]:Bd (-x) m:=⟨by have:=a.le;omega⟩
instance qwN {x y:Int}{m n:Nat} [a:Bd x m] [b:Bd y n]:Bd (x*y) (m*n):=⟨by rw[Int.natAbs_mul];exact Nat.mul_le_mul a.le b.le⟩
theorem lit_le (k:Nat):(OfNat.ofNat k:Int).natAbs≤k:=by
 have:(OfNat.ofNat k:Int)=(k:Int):=rfl
 rw[this];omega
instance bdLit {k:Nat}:Bd (OfNat.ofNat k:Int) k:=⟨lit_le k⟩
instance bdMax {x y:Int}{m n:Nat} [a:Bd x m] [b:Bd y n]:Bd (max x y) (m+n):=⟨by have:=a.le;have:=b.le;omega⟩
instance bdMin {x y:Int}{m n:Nat} [a:Bd x m] [b:Bd y n]:Bd (min x y) (m+n):=⟨by have:=a.le;have:=b.le;omega⟩
theorem wrap64 {x:Int}(h1: -9223372036854775808≤x)(h2:x≤9223372036854775807):IntKind.i64.wrap x=x:=IntWalk.i64_in x (by omega)
theorem q0Z {x:Int}{n:Nat} [h:Bd x n](hn:n<9223372036854775808):IntKind.i64.wrap x=x:=by
 have:=h.le
 exact wrap64 (by omega) (by omega)
theorem qdA {n:Nat}(hn:n<9223372036854775808):IntKind.i64.wrap (n:Int)=n:=wrap64 (by omega) (by omega)
theorem q06 {x y:Int}:ltb x y=true↔x<y:=by simp[ltb]
theorem q07 {x y:Int}:ltb x y=false↔y≤x:=by simp[ltb]
theorem q0G {x y:Int}:leb x y=true↔x≤y:=by simp[leb]
theorem q0I {x y:Int}:leb x y=false↔y<x:=by simp[leb]
theorem q1I {x y:Int}:eqb x y=true↔x=y:=by simp[eqb]
theorem q1J {x y:Int}:eqb x y=false↔x≠y:=by simp[eqb]
theorem q0w {x y:Int}:nqb x y=true↔x≠y:=by simp[nqb]
theorem q0B {x y:Int}:nqb x y=false↔x=y:=by simp[nqb]
theorem q1U (x y:Int):ltb x y=decide (x<y):=by unfold ltb;rfl
theorem q2h (x y:Int):leb x y=decide (x≤y):=by unfold leb;rfl
theorem q2o (x y:Int):eqb x y=decide (x=y):=by unfold eqb;rfl
theorem q4n (x y:Int):nqb x y=!decide (x=y):=by unfold nqb;rfl
structure Spot where
 x:Int
 y:Int
 deriving DecidableEq
def Spot.enc (s:Spot):D:=.agg [.int .i64 s.x,.int .i64 s.y]
def q0k (p:List Spot):D:=.lst (p.map Spot.enc)
structure Edge where
 name:ByteArray
 line:List Spot
def Edge.enc (e:Edge):D:=.agg [.str e.name,q0k e.line]
def edges (l:List Edge):D:=.lst (l.map Edge.enc)
def q00 (n:Int):D:=.int .i64 n
def ints (l:List Int):D:=.lst (l.map q00)
class OkS (s:Spot):Prop where
 bx:s.x.natAbs≤4194304
 byy:s.y.natAbs≤4194304
instance okX {s:Spot} [h:OkS s]:Bd s.x 4194304:=⟨h.bx⟩
instance okY {s:Spot} [h:OkS s]:Bd s.y 4194304:=⟨h.byy⟩
theorem q1K {α β:Type}{f:α→β}{l:List α}{i:Nat}(h:i<l.length):(l.map f)[i]?=some (f l[i]):=by simp[h]
theorem q1k {α:Type}{f:α→D}{n:Nat}(h:∀x,(f x).cells.length=n)(l:List α):(l.map f).all (fun d=>d.cells.length==n)=true:=by
 simp only[List.all_map,List.all_eq_true,Function.comp]
 intro x _;simp[h x]
theorem q05 {α:Type}{f:α→D}(h:∀x,plain 4 (f x)=true)(l:List α):(l.map f).all (plain 4)=true:=by
 simp only[List.all_map,List.all_eq_true,Function.comp]
 intro x _;exact h x
theorem q0L {α:Type}{f:α→D}(h:∀x,dat 4 (f x)=true)(l:List α):(l.map f).all (dat 4)=true:=by
 simp only[List.all_map,List.all_eq_true,Function.comp]
 intro x _;exact h x
theorem q0r (s:Spot):plain 4 s.enc=true:=rfl
theorem q1u (s:Spot):dat 4 s.enc=true:=rfl
theorem q3r (e:Edge):plain 4 e.enc=true:=rfl
theorem q6j (e:Edge):dat 4 e.enc=true:=rfl
theorem q4Q (n:Int):plain 4 (q00 n)=true:=rfl
theorem q7e (n:Int):dat 4 (q00 n)=true:=rfl
section
variable {T:Tab}{sh:Shr}{nx0:Nat}{s:List Fr}{t:q0z}{h:q0e}{z:Frz}{nx:Nat}{q:Ex→q0z→q0e→Frz→Nat→Prop}
variable {base i:Nat}{res:List Nat}{dst:Nat}{g:Gd}{rest:List KOper}
theorem qdB {n:Nat}{x:X}{hi:Option X}{l:List D}(b:Nat)(hx:x.ev t=.lst l)(hc:l.all (fun d=>d.cells.length==n)=true)(hhi:qjS t hi l.length b)(hb:b≤l.length)
 (hk:wpM T sh nx0 (.ops base res rest::s) .normal (upd t dst (.lst (l.take b))) h z nx q):
 wpM T sh nx0 (.ops base res (⟨i,some dst,none,g,.slsl n x none hi none⟩::rest)::s) .normal t h z nx q:=
 atSl 0 b hx hc rfl hhi ⟨Nat.zero_le _,hb⟩ (by simpa using hk)
end
theorem qzU {n:Nat}{f:FuncId}{args:List D}{r:D}(h:run prog q7r qnI n f args=some r):PU f args=some r:=
 qvA ⟨n,fun _ hM=>qH0 hM h⟩
theorem ww {x:Int}(h1: -9223372036854775808≤x:=by omega)(h2:x≤9223372036854775807:=by omega):IntKind.i64.wrap x=x:=wrap64 h1 h2
theorem wS {n:Nat}(h:n<9223372036854775807:=by omega):IntKind.i64.wrap ((n:Int)+1)=((n+1:Nat):Int):=wrap64 (by omega) (by omega)
end Go.F
