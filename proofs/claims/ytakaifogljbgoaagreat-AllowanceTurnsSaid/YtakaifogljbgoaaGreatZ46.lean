/- Parts of the proof, part 46: SDec. -/
import Derived.Test.YtakaifogljbgoaaGreatZ44
import Derived.Test.YtakaifogljbgoaaGreatZ45
set_option linter.all false
namespace Go.F
theorem q5O {sh:Sh}{α:Type}{enc:α→D}(h:∀x,HasC sh x→∃a,mkD sh x=enc a){c:List D}(hc:HasC (.sl sh) c):∃l:List α,c=[.lst (l.map enc)]∧l.length≤maxLen:=by
 obtain⟨l,h1,h2⟩:=qiR h hc
 refine⟨l,?_,h2⟩
 cases hc with
 |sl _ es _ _=>rw[←h1];rfl
def qHD:Sh:=.st [.int .i64,.int .i64]
def qwo:Sh:=.st [.str,qiS,.int .i64,.sl qHD,.sl qeA,qkb,.bool]
theorem qjD {x:List D}(h:HasC (.int .i64) x):∃n:Int,mkD (.int .i64) x=q00 n:=by
 obtain⟨n,rfl,_⟩:=q2r h
 exact⟨n,rfl⟩
theorem qIX {x:List D}(h:HasC qHD x):∃n:Ntc,mkD qHD x=n.enc:=by
 obtain⟨a,b,rfl,ha,hb⟩:=q0X h
 obtain⟨c,d,rfl,hc,hd⟩:=q0X hb
 obtain⟨n,rfl,_⟩:=q2r ha
 obtain⟨m,rfl,_⟩:=q2r hc
 obtain rfl:=q7f hd
 exact⟨⟨n,m⟩,rfl⟩
end Go.F
