/- Parts of the proof, part 47: SDec. -/
import Derived.Test.YtakaifogljbgoaaGreatZ45
import Derived.Test.YtakaifogljbgoaaGreatZ44
import Derived.Test.YtakaifogljbgoaaGreatZ46
set_option linter.all false
namespace Go.F
theorem q5k {sh:Sh}{α:Type}{enc:α→D}(h:∀x,HasC sh x→∃a,mkD sh x=enc a){c:List D}(hc:HasC (.sl sh) c):∃l:List α,c=[.lst (l.map enc)]∧l.length≤maxLen:=by
 obtain⟨l,h1,h2⟩:=qhN h hc
 refine⟨l,?_,h2⟩
 cases hc with
 |sl _ es _ _=>rw[←h1];rfl
def qFX:Sh:=.st [.int .i64,.int .i64]
def quQ:Sh:=.st [.str,qhO,.int .i64,.sl qFX,.sl qdE,qj4,.bool]
def qFY:Sh:=.st [.int .i64,.int .i64,.bool]
def qFZ:Sh:=.st [.int .i64,.int .i64,.int .i64,.int .i64,.bool,.int .i64]
def qG0:Sh:=.st [.str,.int .i64,.int .i64,qj4,qj4]
def shSty:Sh:=.st [.str,.sl .str,qj4,.sl quQ,.sl qFY,.sl qFZ,.sl qG0]
theorem qiv {x:List D}(h:HasC (.int .i64) x):∃n:Int,mkD (.int .i64) x=q00 n:=by
 obtain⟨n,rfl,_⟩:=q2e h
 exact⟨n,rfl⟩
theorem qG1 {x:List D}(h:HasC .str x):∃s:ByteArray,mkD .str x=D.str s:=by
 obtain⟨s,rfl,_⟩:=qeB h
 exact⟨s,rfl⟩
theorem qHm {x:List D}(h:HasC qFX x):∃n:Ntc,mkD qFX x=n.enc:=by
 obtain⟨a,b,rfl,ha,hb⟩:=q0S h
 obtain⟨c,d,rfl,hc,hd⟩:=q0S hb
 obtain⟨n,rfl,_⟩:=q2e ha
 obtain⟨m,rfl,_⟩:=q2e hc
 obtain rfl:=q6y hd
 exact⟨⟨n,m⟩,rfl⟩
theorem qHn {x:List D}(h:HasC qFY x):∃n:Use,mkD qFY x=n.enc:=by
 obtain⟨a,b,rfl,ha,hb⟩:=q0S h
 obtain⟨c,d,rfl,hc,hd⟩:=q0S hb
 obtain⟨e,f,rfl,he,hf⟩:=q0S hd
 obtain⟨n,rfl,_⟩:=q2e ha
 obtain⟨m,rfl,_⟩:=q2e hc
 obtain⟨k,rfl⟩:=qob he
 obtain rfl:=q6y hf
 exact⟨⟨n,m,k⟩,rfl⟩
theorem qHo {x:List D}(h:HasC qFZ x):∃n:Sew,mkD qFZ x=n.enc:=by
 obtain⟨a1,r1,rfl,h1,g1⟩:=q0S h
 obtain⟨a2,r2,rfl,h2,g2⟩:=q0S g1
 obtain⟨a3,r3,rfl,h3,g3⟩:=q0S g2
 obtain⟨a4,r4,rfl,h4,g4⟩:=q0S g3
 obtain⟨a5,r5,rfl,h5,g5⟩:=q0S g4
 obtain⟨a6,r6,rfl,h6,g6⟩:=q0S g5
 obtain⟨n1,rfl,_⟩:=q2e h1
 obtain⟨n2,rfl,_⟩:=q2e h2
 obtain⟨n3,rfl,_⟩:=q2e h3
 obtain⟨n4,rfl,_⟩:=q2e h4
 obtain⟨n5,rfl⟩:=qob h5
 obtain⟨n6,rfl,_⟩:=q2e h6
 obtain rfl:=q6y g6
 exact⟨⟨n1,n2,n3,n4,n5,n6⟩,rfl⟩
theorem qHp {x:List D}(h:HasC qG0 x):∃n:Opn,mkD qG0 x=n.enc:=by
 obtain⟨a1,r1,rfl,h1,g1⟩:=q0S h
 obtain⟨a2,r2,rfl,h2,g2⟩:=q0S g1
 obtain⟨a3,r3,rfl,h3,g3⟩:=q0S g2
 obtain⟨a4,r4,rfl,h4,g4⟩:=q0S g3
 obtain⟨a5,r5,rfl,h5,g5⟩:=q0S g4
 obtain⟨n1,rfl,_⟩:=qeB h1
 obtain⟨n2,rfl,_⟩:=q2e h2
 obtain⟨n3,rfl,_⟩:=q2e h3
 obtain⟨n4,rfl,_⟩:=q5k (fun _ hx=>qiv hx) h4
 obtain⟨n5,rfl,_⟩:=q5k (fun _ hx=>qiv hx) h5
 obtain rfl:=q6y g5
 exact⟨⟨n1,n2,n3,n4,n5⟩,rfl⟩
theorem qDs {x:List D}(h:HasC quQ x):∃n:Piece,mkD quQ x=n.enc:=by
 obtain⟨a1,r1,rfl,h1,g1⟩:=q0S h
 obtain⟨a2,r2,rfl,h2,g2⟩:=q0S g1
 obtain⟨a3,r3,rfl,h3,g3⟩:=q0S g2
 obtain⟨a4,r4,rfl,h4,g4⟩:=q0S g3
 obtain⟨a5,r5,rfl,h5,g5⟩:=q0S g4
 obtain⟨a6,r6,rfl,h6,g6⟩:=q0S g5
 obtain⟨a7,r7,rfl,h7,g7⟩:=q0S g6
 obtain⟨n1,rfl,_⟩:=qeB h1
 obtain⟨n2,rfl,_⟩:=q5k (fun _ hx=>qvS hx) h2
 obtain⟨n3,rfl,_⟩:=q2e h3
 obtain⟨n4,rfl,_⟩:=q5k (fun _ hx=>qHm hx) h4
 obtain⟨n5,rfl,_⟩:=q5k (enc:=Spot.enc) (fun _ hx=>by obtain⟨s,e,_⟩:=qod hx;exact⟨s,e⟩) h5
 obtain⟨n6,rfl,_⟩:=q5k (fun _ hx=>qiv hx) h6
 obtain⟨n7,rfl⟩:=qob h7
 obtain rfl:=q6y g7
 exact⟨⟨n1,n2,n3,n4,n5,n6,n7⟩,rfl⟩
theorem dec_sty {x:List D}(h:HasC shSty x):∃n:Sty,mkD shSty x=n.enc:=by
 obtain⟨a1,r1,rfl,h1,g1⟩:=q0S h
 obtain⟨a2,r2,rfl,h2,g2⟩:=q0S g1
 obtain⟨a3,r3,rfl,h3,g3⟩:=q0S g2
 obtain⟨a4,r4,rfl,h4,g4⟩:=q0S g3
 obtain⟨a5,r5,rfl,h5,g5⟩:=q0S g4
 obtain⟨a6,r6,rfl,h6,g6⟩:=q0S g5
 obtain⟨a7,r7,rfl,h7,g7⟩:=q0S g6
 obtain⟨n1,rfl,_⟩:=qeB h1
 obtain⟨n2,rfl,_⟩:=q5k (fun _ hx=>qG1 hx) h2
 obtain⟨n3,rfl,_⟩:=q5k (fun _ hx=>qiv hx) h3
 obtain⟨n4,rfl,_⟩:=q5k (fun _ hx=>qDs hx) h4
 obtain⟨n5,rfl,_⟩:=q5k (fun _ hx=>qHn hx) h5
 obtain⟨n6,rfl,_⟩:=q5k (fun _ hx=>qHo hx) h6
 obtain⟨n7,rfl,_⟩:=q5k (fun _ hx=>qHp hx) h7
 obtain rfl:=q6y g7
 exact⟨⟨n1,n2,n3,n4,n5,n6,n7⟩,rfl⟩
end Go.F
