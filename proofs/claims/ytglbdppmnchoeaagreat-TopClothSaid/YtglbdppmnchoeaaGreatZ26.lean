/- Part 26. -/
import Derived.Test.YtglbdppmnchoeaaGreatZ16
import Derived.Test.YtglbdppmnchoeaaGreatZ18
namespace Go.F
class Bd (x:Int) (n:outParam Nat):Prop where
 le:x.natAbs<=n
theorem Bd.lo {x:Int}{n:Nat} [h:Bd x n]: -(n:Int)<=x:=by have:=h.le;omega
theorem Bd.hi {x:Int}{n:Nat} [h:Bd x n]:x<=(n:Int):=by have:=h.le;omega
theorem Bd.of {x:Int}{n:Nat}(h1: -(n:Int)<=x)(a:x<=n):Bd x n:=⟨by omega⟩
instance bdAdd {x y:Int}{m n:Nat} [a:Bd x m] [b:Bd y n]:Bd (x+y) (m+n):=⟨by have:=a.le;have:=b.le;omega⟩
instance bdSub {x y:Int}{m n:Nat} [a:Bd x m] [b:Bd y n]:Bd (x-y) (m+n):=⟨by have:=a.le;have:=b.le;omega⟩
instance bdNeg {x:Int}{m:Nat} [a:Bd x m]:Bd (-x) m:=⟨by have:=a.le;omega⟩
instance Cz {x y:Int}{m n:Nat} [a:Bd x m] [b:Bd y n]:Bd (x*y) (m*n):=⟨by rw[yV];exact z6 a.le b.le⟩
theorem lit_le (k:Nat):(OfNat.ofNat k:Int).natAbs<=k:=by
 simp[OfNat.ofNat]
instance bdLit {k:Nat}:Bd (OfNat.ofNat k:Int) k:=⟨lit_le k⟩
instance bdMax {x y:Int}{m n:Nat} [a:Bd x m] [b:Bd y n]:Bd (max x y) (m+n):=⟨by have:=a.le;have:=b.le;omega⟩
instance bdMin {x y:Int}{m n:Nat} [a:Bd x m] [b:Bd y n]:Bd (min x y) (m+n):=⟨by have:=a.le;have:=b.le;omega⟩
theorem wrap64 {x:Int}(h1: -9223372036854775808<=x)(a:x<=9223372036854775807):IntKind.i64.wrap x=x:=IntWalk.i64_in x (by omega)
theorem cH {x:Int}{n:Nat} [h:Bd x n](a:n<9223372036854775808):IntKind.i64.wrap x=x:=by
 have:=h.le;grind[wrap64]
theorem um {n:Nat}(a:n<9223372036854775808):IntKind.i64.wrap (n:Int)=n:=wrap64 (by omega) (by omega)
theorem ad {x y:Int}:ltb x y=true↔x<y:=by simp[ltb]
theorem af {x y:Int}:ltb x y=false↔y<=x:=by simp[ltb]
theorem bk {x y:Int}:leb x y=true↔x<=y:=by simp[leb]
theorem aW {x y:Int}:leb x y=false↔y<x:=by simp[leb]
theorem co {x y:Int}:eqb x y=true↔x=y:=by simp[eqb]
theorem dG {x y:Int}:eqb x y=false↔x≠y:=by simp[eqb]
theorem aO {x y:Int}:nqb x y=true↔x≠y:=by simp[nqb]
theorem aE {x y:Int}:nqb x y=false↔x=y:=by simp[nqb]
theorem cw (x y:Int):ltb x y=decide (x<y):=by simp[ltb]
theorem ca (x y:Int):leb x y=decide (x<=y):=by simp[leb]
theorem cC (x y:Int):eqb x y=decide (x=y):=by grind[eqb]
theorem eJ (x y:Int):nqb x y=!decide (x=y):=by grind[nqb]
structure Spot where
 x:Int
 y:Int
 deriving DecidableEq
def Spot.enc (s:Spot):D:=.agg [.int .i64 s.x,.int .i64 s.y]
def ac (p:List Spot):D:=.lst (p.map Spot.enc)
structure Edge where
 name:ByteArray
 line:List Spot
def Edge.enc (e:Edge):D:=.agg [.str e.name,ac e.line]
def edges (l:List Edge):D:=.lst (l.map Edge.enc)
def aa (n:Int):D:=.int .i64 n
def ints (l:List Int):D:=.lst (l.map aa)
class OkS (s:Spot):Prop where
 bx:s.x.natAbs<=4194304
 byy:s.y.natAbs<=4194304
instance okX {s:Spot} [h:OkS s]:Bd s.x 4194304:=⟨h.bx⟩
instance okY {s:Spot} [h:OkS s]:Bd s.y 4194304:=⟨h.byy⟩
theorem eP {α β:Type}{f:α->β}{l:List α}{i:Nat}(h:i<l.length):(l.map f)[i]?=some (f l[i]):=by grind
theorem dS {α:Type}{f:α->D}{n:Nat}(h:∀x,(f x).cells.length=n)(l:List α):(l.map f).all (fun d=>d.cells.length==n)=true:=by
 grind
theorem ae {α:Type}{f:α->D}(h:∀x,plain 4 (f x)=true)(l:List α):(l.map f).all (plain 4)=true:=by
 grind
theorem bF {α:Type}{f:α->D}(h:∀x,dat 4 (f x)=true)(l:List α):(l.map f).all (dat 4)=true:=by
 grind
theorem am (s:Spot):plain 4 s.enc=true:=rfl
theorem fh (s:Spot):dat 4 s.enc=true:=rfl
theorem SI (e:Edge):plain 4 e.enc=true:=rfl
theorem Od (e:Edge):dat 4 e.enc=true:=rfl
theorem iz (n:Int):plain 4 (aa n)=true:=rfl
theorem Db (n:Int):dat 4 (aa n)=true:=rfl
section
variable {T:Tab}{sh:Shr}{nx0:Nat}{s:List Fr}{t:ai}{h:ab}{z:Frz}{nx:Nat}{q:Ex->ai->ab->Frz->Nat->Prop}
variable {base i:Nat}{res:List Nat}{dst:Nat}{g:Gd}{rest:List KOper}
theorem nK {n:Nat}{x:X}{hi:Option X}{l:List D}(b:Nat)(c:x.ev t=.lst l)(e:l.all (fun d=>d.cells.length==n)=true)(a:mQ t hi l.length b)(f:b<=l.length)
 (j:wpM T sh nx0 (.ops base res rest::s) .normal (upd t dst (.lst (l.take b))) h z nx q):
 wpM T sh nx0 (.ops base res (⟨i,some dst,none,g,.slsl n x none hi none⟩::rest)::s) .normal t h z nx q:=
 atSl 0 b c e rfl a ⟨zB _,f⟩ (by simpa using j)
end
theorem uK {n:Nat}{f:FuncId}{args:List D}{r:D}(h:run prog kK fL n f args=some r):PU f args=some r:=
 rX ⟨n,fun _ a=>Yn a h⟩
theorem ww {x:Int}(h1: -9223372036854775808<=x:=by omega)(a:x<=9223372036854775807:=by omega):IntKind.i64.wrap x=x:=wrap64 h1 a
theorem wS {n:Nat}(h:n<9223372036854775807:=by omega):IntKind.i64.wrap ((n:Int)+1)=((n+1:Nat):Int):=wrap64 (by omega) (by omega)
theorem PS {f:FuncId}{fn:KFn}{args:List D}{r:D}(a:tab f=some fn)(b:wpM TT (shr TT 6) 0 [.code fn.code] .normal (enter args) empty kl 0 (bB fn fun d h _ _=>ws2 h d fun d=>d=r))(hr:fn.hr=[]:=by rfl)(c:fn.gv=[]:=by rfl)(e:(fn.em&&fW args)=false:=by rfl):PU f args=some r:=EQ a (Tl b hr) c e
abbrev zz3:List Nat:=[0,0,0]
abbrev zz4:List Nat:=[0,0,0,0]
abbrev zz5:List Nat:=[0,0,0,0,0]
abbrev zz6:List Nat:=[0,0,0,0,0,0]
abbrev zz7:List Nat:=[0,0,0,0,0,0,0]
abbrev zz8:List Nat:=[0,0,0,0,0,0,0,0]
abbrev zz9:List Nat:=[0,0,0,0,0,0,0,0,0]
abbrev zz10:List Nat:=[0,0,0,0,0,0,0,0,0,0]
abbrev zz11:List Nat:=[0,0,0,0,0,0,0,0,0,0,0]
abbrev zz12:List Nat:=[0,0,0,0,0,0,0,0,0,0,0,0]
abbrev zz13:List Nat:=[0,0,0,0,0,0,0,0,0,0,0,0,0]
abbrev zz16:List Nat:=[0,0,0,0,0,0,0,0,0,0,0,0,0,0,0,0]
abbrev zz17:List Nat:=[0,0,0,0,0,0,0,0,0,0,0,0,0,0,0,0,0]
abbrev nn2:List (Option Blk):=[none,none]
abbrev nn3:List (Option Blk):=[none,none,none]
abbrev nn4:List (Option Blk):=[none,none,none,none]
abbrev nn5:List (Option Blk):=[none,none,none,none,none]
abbrev nn6:List (Option Blk):=[none,none,none,none,none,none]
abbrev nn7:List (Option Blk):=[none,none,none,none,none,none,none]
abbrev nn8:List (Option Blk):=[none,none,none,none,none,none,none,none]
abbrev nn9:List (Option Blk):=[none,none,none,none,none,none,none,none,none]
abbrev Fv:=List (List Spot)
abbrev RU:=List (Option Blk)
abbrev Rp:=List Spot
end Go.F
