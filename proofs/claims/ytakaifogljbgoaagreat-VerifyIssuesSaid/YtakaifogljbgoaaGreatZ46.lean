/- Parts of the proof, part 46: SDec. -/
import Derived.Test.YtakaifogljbgoaaGreatZ44
import Derived.Test.YtakaifogljbgoaaGreatZ45
set_option linter.all false
namespace Go.F
theorem q5k {sh:Sh}{α:Type}{enc:α→D}(h:∀x,HasC sh x→∃a,mkD sh x=enc a){c:List D}(hc:HasC (.sl sh) c):∃l:List α,c=[.lst (l.map enc)]∧l.length≤maxLen:=by
 obtain⟨l,h1,h2⟩:=qhS h hc
 refine⟨l,?_,h2⟩
 cases hc with
 |sl _ es _ _=>rw[←h1];rfl
def qFU:Sh:=.st [.int .i64,.int .i64]
def quY:Sh:=.st [.str,qhT,.int .i64,.sl qFU,.sl qdL,qjb,.bool]
def qFV:Sh:=.st [.int .i64,.int .i64,.bool]
def qFW:Sh:=.st [.int .i64,.int .i64,.int .i64,.int .i64,.bool,.int .i64]
def qFX:Sh:=.st [.str,.int .i64,.int .i64,qjb,qjb]
def shSty:Sh:=.st [.str,.sl .str,qjb,.sl quY,.sl qFV,.sl qFW,.sl qFX]
theorem qiC {x:List D}(h:HasC (.int .i64) x):∃n:Int,mkD (.int .i64) x=q00 n:=by
 obtain⟨n,rfl,_⟩:=q2g h
 exact⟨n,rfl⟩
theorem qFY {x:List D}(h:HasC .str x):∃s:ByteArray,mkD .str x=D.str s:=by
 obtain⟨s,rfl,_⟩:=qeG h
 exact⟨s,rfl⟩
theorem qHg {x:List D}(h:HasC qFU x):∃n:Ntc,mkD qFU x=n.enc:=by
 obtain⟨a,b,rfl,ha,hb⟩:=q0T h
 obtain⟨c,d,rfl,hc,hd⟩:=q0T hb
 obtain⟨n,rfl,_⟩:=q2g ha
 obtain⟨m,rfl,_⟩:=q2g hc
 obtain rfl:=q6z hd
 exact⟨⟨n,m⟩,rfl⟩
theorem qHh {x:List D}(h:HasC qFV x):∃n:Use,mkD qFV x=n.enc:=by
 obtain⟨a,b,rfl,ha,hb⟩:=q0T h
 obtain⟨c,d,rfl,hc,hd⟩:=q0T hb
 obtain⟨e,f,rfl,he,hf⟩:=q0T hd
 obtain⟨n,rfl,_⟩:=q2g ha
 obtain⟨m,rfl,_⟩:=q2g hc
 obtain⟨k,rfl⟩:=qom he
 obtain rfl:=q6z hf
 exact⟨⟨n,m,k⟩,rfl⟩
theorem qHi {x:List D}(h:HasC qFW x):∃n:Sew,mkD qFW x=n.enc:=by
 obtain⟨a1,r1,rfl,h1,g1⟩:=q0T h
 obtain⟨a2,r2,rfl,h2,g2⟩:=q0T g1
 obtain⟨a3,r3,rfl,h3,g3⟩:=q0T g2
 obtain⟨a4,r4,rfl,h4,g4⟩:=q0T g3
 obtain⟨a5,r5,rfl,h5,g5⟩:=q0T g4
 obtain⟨a6,r6,rfl,h6,g6⟩:=q0T g5
 obtain⟨n1,rfl,_⟩:=q2g h1
 obtain⟨n2,rfl,_⟩:=q2g h2
 obtain⟨n3,rfl,_⟩:=q2g h3
 obtain⟨n4,rfl,_⟩:=q2g h4
 obtain⟨n5,rfl⟩:=qom h5
 obtain⟨n6,rfl,_⟩:=q2g h6
 obtain rfl:=q6z g6
 exact⟨⟨n1,n2,n3,n4,n5,n6⟩,rfl⟩
theorem qHj {x:List D}(h:HasC qFX x):∃n:Opn,mkD qFX x=n.enc:=by
 obtain⟨a1,r1,rfl,h1,g1⟩:=q0T h
 obtain⟨a2,r2,rfl,h2,g2⟩:=q0T g1
 obtain⟨a3,r3,rfl,h3,g3⟩:=q0T g2
 obtain⟨a4,r4,rfl,h4,g4⟩:=q0T g3
 obtain⟨a5,r5,rfl,h5,g5⟩:=q0T g4
 obtain⟨n1,rfl,_⟩:=qeG h1
 obtain⟨n2,rfl,_⟩:=q2g h2
 obtain⟨n3,rfl,_⟩:=q2g h3
 obtain⟨n4,rfl,_⟩:=q5k (fun _ hx=>qiC hx) h4
 obtain⟨n5,rfl,_⟩:=q5k (fun _ hx=>qiC hx) h5
 obtain rfl:=q6z g5
 exact⟨⟨n1,n2,n3,n4,n5⟩,rfl⟩
theorem qDp {x:List D}(h:HasC quY x):∃n:Piece,mkD quY x=n.enc:=by
 obtain⟨a1,r1,rfl,h1,g1⟩:=q0T h
 obtain⟨a2,r2,rfl,h2,g2⟩:=q0T g1
 obtain⟨a3,r3,rfl,h3,g3⟩:=q0T g2
 obtain⟨a4,r4,rfl,h4,g4⟩:=q0T g3
 obtain⟨a5,r5,rfl,h5,g5⟩:=q0T g4
 obtain⟨a6,r6,rfl,h6,g6⟩:=q0T g5
 obtain⟨a7,r7,rfl,h7,g7⟩:=q0T g6
 obtain⟨n1,rfl,_⟩:=qeG h1
 obtain⟨n2,rfl,_⟩:=q5k (fun _ hx=>qvT hx) h2
 obtain⟨n3,rfl,_⟩:=q2g h3
 obtain⟨n4,rfl,_⟩:=q5k (fun _ hx=>qHg hx) h4
 obtain⟨n5,rfl,_⟩:=q5k (enc:=Spot.enc) (fun _ hx=>by obtain⟨s,e,_⟩:=qoo hx;exact⟨s,e⟩) h5
 obtain⟨n6,rfl,_⟩:=q5k (fun _ hx=>qiC hx) h6
 obtain⟨n7,rfl⟩:=qom h7
 obtain rfl:=q6z g7
 exact⟨⟨n1,n2,n3,n4,n5,n6,n7⟩,rfl⟩
theorem dec_sty {x:List D}(h:HasC shSty x):∃n:Sty,mkD shSty x=n.enc:=by
 obtain⟨a1,r1,rfl,h1,g1⟩:=q0T h
 obtain⟨a2,r2,rfl,h2,g2⟩:=q0T g1
 obtain⟨a3,r3,rfl,h3,g3⟩:=q0T g2
 obtain⟨a4,r4,rfl,h4,g4⟩:=q0T g3
 obtain⟨a5,r5,rfl,h5,g5⟩:=q0T g4
 obtain⟨a6,r6,rfl,h6,g6⟩:=q0T g5
 obtain⟨a7,r7,rfl,h7,g7⟩:=q0T g6
 obtain⟨n1,rfl,_⟩:=qeG h1
 obtain⟨n2,rfl,_⟩:=q5k (fun _ hx=>qFY hx) h2
 obtain⟨n3,rfl,_⟩:=q5k (fun _ hx=>qiC hx) h3
 obtain⟨n4,rfl,_⟩:=q5k (fun _ hx=>qDp hx) h4
 obtain⟨n5,rfl,_⟩:=q5k (fun _ hx=>qHh hx) h5
 obtain⟨n6,rfl,_⟩:=q5k (fun _ hx=>qHi hx) h6
 obtain⟨n7,rfl,_⟩:=q5k (fun _ hx=>qHj hx) h7
 obtain rfl:=q6z g7
 exact⟨⟨n1,n2,n3,n4,n5,n6,n7⟩,rfl⟩
end Go.F
